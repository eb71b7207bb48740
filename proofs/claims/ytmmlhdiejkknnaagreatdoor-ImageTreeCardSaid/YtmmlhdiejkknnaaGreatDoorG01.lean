/-
  Parts of the proof: SxA SxB SxC SxD SxE
-/
import Derived.Calls
import Derived.Laws.Sem
import Derived.Below
import Derived.Laws.Entries
import Derived.Laws.Strings
import Derived.LaidEql
import Derived.Laws.StructEq
import Derived.Laws.Slices
import Derived.Lib.IndexBytes
set_option maxRecDepth 100000
set_option maxHeartbeats 0
namespace Go.Sx
noncomputable section
variable {dfs : List Deferred}
inductive T(α:Type) where
 |e
 |n (l:T α) (v:Option α) (r:T α)
namespace T
variable {α:Type}
theorem p9{β:Type}(b:Bool)(x y:β):Bool.rec (motive:=fun _=>β) y x b=cond b x y:=by cases b<;>rfl
def get(t:T α):Nat→Option α:=
 T.rec (motive:=fun _=>Nat→Option α) (fun _=>none) (fun _ v _ gl gr i=>Nat.rec (motive:=fun _=>Option α) v (fun j _=>Bool.rec (motive:=fun _=>Option α) (gr (Nat.div j 2)) (gl (Nat.div j 2)) (Nat.beq (Nat.mod j 2) 0)) i) t
def nn(f:Nat):T α→Nat→Option α→T α:=
 Nat.rec (motive:=fun _=>T α→Nat→Option α→T α) (fun _ _ _=> .e)
  (fun _ ih t i x=>T.rec (motive:=fun _=>T α)
    (Nat.rec (motive:=fun _=>T α) (.n .e x .e) (fun j _=>Bool.rec (motive:=fun _=>T α) (.n .e none (ih .e (Nat.div j 2) x)) (.n (ih .e (Nat.div j 2) x) none .e) (Nat.beq (Nat.mod j 2) 0)) i)
    (fun l v r _ _=>Nat.rec (motive:=fun _=>T α) (.n l x r) (fun j _=>Bool.rec (motive:=fun _=>T α) (.n l v (ih r (Nat.div j 2) x)) (.n (ih l (Nat.div j 2) x) v r) (Nat.beq (Nat.mod j 2) 0)) i) t) f
theorem D5(l:T α)(v:Option α)(r:T α):(T.n l v r).get 0=v:=rfl
theorem nQ(l:T α)(v:Option α)(r:T α)(j:Nat):(T.n l v r).get (j+1)=bif Nat.beq (j%2) 0 then l.get (j/2)else r.get (j/2):=p9 _ _ _
theorem setF_0(t:T α)(i:Nat)(x:Option α):nn 0 t i x= .e:=rfl
theorem zf(f:Nat)(x:Option α):nn (f+1) (.e:T α) 0 x= .n .e x .e:=rfl
theorem tn(f j:Nat)(x:Option α):nn (f+1) (.e:T α) (j+1) x=bif Nat.beq (j%2) 0 then .n (nn f .e (j/2) x) none .e else .n .e none (nn f .e (j/2) x):=p9 _ _ _
theorem tl(f:Nat)(l:T α)(v:Option α)(r:T α)(j:Nat)(x:Option α):nn (f+1) (.n l v r) (j+1) x=bif Nat.beq (j%2) 0 then .n (nn f l (j/2) x) v r else .n l v (nn f r (j/2) x):=p9 _ _ _
def set(t:T α)(i:Nat)(x:α):T α:=nn 32 t i (some x)
def del(t:T α)(i:Nat):T α:=nn 32 t i none
theorem dY(i:Nat):(T.e:T α).get i=none:=rfl
theorem pA{b:Bool}{j m:Nat}(hb:Nat.beq (j%2) 0=b)(hm:Nat.beq (m%2) 0=b)(h:m/2=j/2):m=j:=by
 cases b
 ·have h1:j%2≠0:=fun e=>by rw [e]at hb;cases hb
  have h2:m%2≠0:=fun e=>by rw [e]at hm;cases hm
  omega
 ·have h1:=Nat.eq_of_beq_eq_true hb
  have h2:=Nat.eq_of_beq_eq_true hm;omega
theorem vS:∀(f:Nat) (t:T α) (i k:Nat) (x:Option α) (y:α),(nn f t i x).get k=some y→(k=i∧x=some y)∨(k≠i∧t.get k=some y):=by
 intro f
 induction f with
 |zero=>intro t i k x y h;rw [setF_0,dY]at h;cases h
 |succ f ih=>
  intro t i k x y h
  cases t with
  |e=>
   cases i with
   |zero=>
    cases k with
    |zero=>exact .inl ⟨rfl,h⟩
    |succ m=>simp only [zf,nQ,dY]at h;cases hb:Nat.beq (m%2) 0<;>simp [hb]at h
   |succ j=>
    simp only [tn]at h
    cases hb:Nat.beq (j%2) 0<;>rw [hb]at h<;>simp only [cond_true,cond_false]at h<;>cases k with
    |zero=>simp [D5]at h
    |succ m=>
     simp only [nQ]at h
     cases hm:Nat.beq (m%2) 0<;>rw [hm]at h<;>simp only [cond_true,cond_false]at h
     all_goals first
      |(cases h;done)
      |(rw [dY]at h;cases h;done)
      |(rcases ih _ _ _ _ _ h with⟨h1,h2⟩|⟨h1,h2⟩
        ·exact .inl ⟨by rw [pA hb hm h1],h2⟩
        ·rw [dY]at h2;cases h2)
  |n l v r=>
   cases i with
   |zero=>
    cases k with
    |zero=>exact .inl ⟨rfl,h⟩
    |succ m=>exact .inr ⟨by omega,h⟩
   |succ j=>
    simp only [tl]at h
    cases hb:Nat.beq (j%2) 0<;>rw [hb]at h<;>simp only [cond_true,cond_false]at h<;>cases k with
    |zero=>exact .inr ⟨by omega,h⟩
    |succ m=>
     simp only [nQ]at h ⊢
     cases hm:Nat.beq (m%2) 0<;>rw [hm]at h<;>simp only [cond_true,cond_false]at h ⊢
     all_goals first
      |(rcases ih _ _ _ _ _ h with⟨h1,h2⟩|⟨h1,h2⟩
        ·exact .inl ⟨by rw [pA hb hm h1],h2⟩
        ·exact .inr ⟨fun e=>h1 (by omega),h2⟩)
      |exact .inr ⟨fun e=>(by
        have e':m=j:=by omega
        subst e';rw [hb]at hm;cases hm),h⟩
theorem bW{t:T α}{i k:Nat}{x y:α}(h:(t.set i x).get k=some y):(k=i∧x=y)∨(k≠i∧t.get k=some y):=by
 rcases vS _ _ _ _ _ _ h with⟨h1,h2⟩|h
 ·exact .inl ⟨h1,by injection h2⟩
 ·exact .inr h
theorem cR{t:T α}{i k:Nat}{y:α}(h:(t.del i).get k=some y):k≠i∧t.get k=some y:=by
 rcases vS _ _ _ _ _ _ h with⟨h1,h2⟩|h
 ·cases h2
 ·exact h
def tI:Nat→List α→T α→T α
 |_, [],t=>t
 |i,x::xs,t=>tI (i+1) xs (t.set i x)
theorem vT:∀(l:List α) (i:Nat) (t:T α) (k:Nat) (y:α),(tI i l t).get k=some y→(i≤k∧l[k-i]? =some y)∨t.get k=some y:=by
 intro l
 induction l with
 |nil=>intro i t k y h;exact .inr h
 |cons x xs ih=>
  intro i t k y h;rcases ih _ _ _ _ h with⟨h1,h2⟩|h
  ·refine .inl ⟨by omega,?_⟩
   rw [show k-i=(k-(i+1))+1 by omega];exact h2
  ·rcases bW h with⟨rfl,rfl⟩|⟨_,h⟩
   ·exact .inl ⟨Nat.le_refl _,by simp⟩
   ·exact .inr h
def ofList(l:List α):T α:=tI 0 l .e
theorem qN{l:List α}{k:Nat}{y:α}(h:(ofList l).get k=some y):l[k]? =some y:=by
 rcases vT _ _ _ _ _ h with⟨_,h⟩|h
 ·exact h
 ·rw [dY]at h;cases h
end T
structure Loc where
 blk:Nat
 off:Nat
 cap:Nat
inductive cJ where
 |lit (c:Nat)
 |sub (b d:Nat)
inductive SV where
 |v (x:Value)
 |str (l:List UInt8)
 |ptr (b o:Nat)
 |slc (b o l:Nat) (c:cJ)
 |mp (b:Nat)
 |agg (cs:List SV)
 |tup (vs:List SV)
 |ifc (t:TypeId) (x:SV)
 |fn (f:FuncId) (caps:List SV)
instance :Inhabited SV:=⟨.v (.bool false)⟩
def cJ.den(ρ:Nat→Loc):cJ→Nat
 | .lit c=>c
 | .sub b d=>(ρ b).cap-d
def cJ.lt(n:Nat):cJ→Prop
 | .lit _=>True
 | .sub b _=>b<n
mutual
def SV.den(ρ:Nat→Loc):SV→Value
 | .v x=>x
 | .str l=> .string ⟨l.toArray⟩
 | .ptr b o=> .pointer (some ⟨(ρ b).blk,(ρ b).off+o,none⟩)
 | .slc b o l c=> .slice (some ⟨(ρ b).blk,(ρ b).off+o,none⟩) l (c.den ρ)
 | .mp b=> .map (some (ρ b).blk)
 | .agg cs=> .agg (SV.gC ρ cs).toArray
 | .tup cs=> .tuple (SV.gC ρ cs).toArray
 | .ifc t x=> .iface t (x.den ρ)
 | .fn f cs=> .func (.func f) #[] (SV.gC ρ cs).toArray
def SV.gC(ρ:Nat→Loc):List SV→List Value
 | []=> []
 |x::xs=>x.den ρ::SV.gC ρ xs
end
mutual
def SV.lt(ρ:Nat→Loc)(n:Nat):SV→Prop
 | .v _| .str _=>True
 | .ptr b _=>b<n
 | .slc b _ l c=>b<n∧c.lt n∧l≤c.den ρ
 | .mp b=>b<n
 | .agg cs=>SV.lts ρ n cs
 | .tup cs=>SV.lts ρ n cs
 | .ifc _ x=>x.lt ρ n
 | .fn _ cs=>SV.lts ρ n cs
def SV.lts(ρ:Nat→Loc)(n:Nat):List SV→Prop
 | []=>True
 |x::xs=>x.lt ρ n∧SV.lts ρ n xs
end
theorem cS(ρ:Nat→Loc)(l:List SV):SV.gC ρ l=l.map (SV.den ρ):=by
 induction l with
 |nil=>rfl
 |cons x xs ih=>simp [SV.gC,ih]
theorem dj{ρ:Nat→Loc}{n:Nat}{l:List SV} :SV.lts ρ n l↔∀x∈l,x.lt ρ n:=by
 induction l with
 |nil=>simp [SV.lts]
 |cons x xs ih=>simp [SV.lts,ih]
def Ext(ρ ρ':Nat→Loc)(n:Nat):Prop:=∀b,b<n→ρ' b=ρ b
theorem Ext.refl(ρ:Nat→Loc)(n:Nat):Ext ρ ρ n:=fun _ _=>rfl
theorem Ext.trans{ρ ρ' ρ'':Nat→Loc}{n n':Nat}(h:Ext ρ ρ' n)(h':Ext ρ' ρ'' n')(hn:n≤n'):Ext ρ ρ'' n:=
 fun b hb=>(h' b (Nat.lt_of_lt_of_le hb hn)).trans (h b hb)
theorem cJ.dN{ρ ρ':Nat→Loc}{n:Nat}(h:Ext ρ ρ' n){c:cJ}(hc:c.lt n):c.den ρ'=c.den ρ:=by
 cases c with
 |lit c=>rfl
 |sub b d=>simp [cJ.den,h b hc]
mutual
theorem SV.dN{ρ ρ':Nat→Loc}{n:Nat}(h:Ext ρ ρ' n):∀(x:SV),x.lt ρ n→x.den ρ'=x.den ρ
 | .v _,_=>rfl
 | .str _,_=>rfl
 | .ptr b o,hx=>by simp only [SV.den,h b hx]
 | .slc b o l c,hx=>by simp only [SV.den,h b hx.1,cJ.dN h hx.2.1]
 | .mp b,hx=>by simp only [SV.den,h b hx]
 | .agg cs,hx=>by simp only [SV.den,SV.mV h cs hx]
 | .tup cs,hx=>by simp only [SV.den,SV.mV h cs hx]
 | .ifc t x,hx=>by simp only [SV.den,SV.dN h x hx]
 | .fn f cs,hx=>by simp only [SV.den,SV.mV h cs hx]
theorem SV.mV{ρ ρ':Nat→Loc}{n:Nat}(h:Ext ρ ρ' n):∀(l:List SV),SV.lts ρ n l→SV.gC ρ' l=SV.gC ρ l
 | [],_=>rfl
 |x::xs,hx=>by simp only [SV.gC,SV.dN h x hx.1,SV.mV h xs hx.2]
end
theorem cJ.lt_mono{n n':Nat}(h:n≤n'){c:cJ}(hc:c.lt n):c.lt n':=by
 cases c with
 |lit c=>trivial
 |sub b d=>exact Nat.lt_of_lt_of_le hc h
mutual
theorem SV.eK{ρ ρ':Nat→Loc}{n n':Nat}(hx:Ext ρ ρ' n)(h:n≤n'):∀(x:SV),x.lt ρ n→x.lt ρ' n'
 | .v _,_=>trivial
 | .str _,_=>trivial
 | .ptr _ _,k=>Nat.lt_of_lt_of_le k h
 | .slc _ _ _ _,k=>⟨Nat.lt_of_lt_of_le k.1 h,cJ.lt_mono h k.2.1,by rw [cJ.dN hx k.2.1];exact k.2.2⟩
 | .mp _,k=>Nat.lt_of_lt_of_le k h
 | .agg cs,k=>SV.pq hx h cs k
 | .tup cs,k=>SV.pq hx h cs k
 | .ifc _ x,k=>SV.eK hx h x k
 | .fn _ cs,k=>SV.pq hx h cs k
theorem SV.pq{ρ ρ':Nat→Loc}{n n':Nat}(hx:Ext ρ ρ' n)(h:n≤n'):∀(l:List SV),SV.lts ρ n l→SV.lts ρ' n' l
 | [],_=>trivial
 |x::xs,k=>⟨SV.eK hx h x k.1,SV.pq hx h xs k.2⟩
end
def SV.cells:SV→Option (List SV)
 | .agg cs=>some cs
 | .v (.agg cs)=>some (cs.toList.map .v)
 | .v (.tuple _)=>none
 | .tup _=>none
 |x=>some [x]
theorem SV.ll{ρ:Nat→Loc}{x:SV}{cs:List SV}(h:x.cells=some cs):(x.den ρ).cells.toList=cs.map (SV.den ρ):=by
 unfold SV.cells at h
 split at h
 ·injection h with h;subst h;simp [SV.den,Value.cells,cS]
 ·injection h with h;subst h
  simp only [SV.den,Value.cells,List.map_map];exact(List.map_id' _).symm
 ·cases h
 ·cases h
 ·rename_i h1 h2 h3 h4
  injection h with h;subst h
  cases x with
  |v x=>cases x<;>first|rfl|exact absurd rfl (h2 _)|exact absurd rfl (h3 _)
  |agg cs=>exact absurd rfl (h1 cs)
  |tup cs=>exact absurd rfl (h4 cs)
  |_=>simp [SV.den,Value.cells]
theorem SV.ra{ρ:Nat→Loc}{n:Nat}{x:SV}{cs:List SV}(h:x.cells=some cs)(hx:x.lt ρ n):∀y∈cs,y.lt ρ n:=by
 unfold SV.cells at h
 split at h
 ·injection h with h;subst h;exact dj.1 hx
 ·injection h with h;subst h;intro y hy;obtain⟨z,_,rfl⟩:=List.mem_map.1 hy;trivial
 ·cases h
 ·cases h
 ·injection h with h;subst h;intro y hy;rw [List.mem_singleton]at hy;subst hy;exact hx
def SV.one:SV→Bool
 | .agg _| .tup _| .v (.agg _)| .v (.tuple _)=>false
 |_=>true
theorem SV.one_den{ρ:Nat→Loc}{x:SV}(h:x.one=true):(x.den ρ).oneCell'=true:=by
 cases x with
 |v x=>cases x<;>first|rfl|cases h
 |_=>first|rfl|cases h
def uH:Value→SV
 | .agg cs=> .agg (cs.toList.map .v)
 |x=> .v x
theorem iP(ρ:Nat→Loc)(x:Value):(uH x).den ρ=x:=by
 cases x<;>simp [uH,SV.den,cS,Function.comp_def]
theorem kU(ρ:Nat→Loc)(n:Nat)(x:Value):(uH x).lt ρ n:=by
 cases x<;>simp [uH,SV.lt,dj]
inductive bD where
 |cells (cs:List SV) (es:Nat) (τ:Nat)
 |map (es:List (SV×SV×Nat)) (clock:Nat)
 |siter (s:List UInt8) (pos:Nat)
 |miter (m since:Nat) (seen:List Nat) (last:Nat)
def xz(blk:Nat→Option Obj)(g o n:Nat):Option (List Value):=match blk g with
 |some (.cells c _ _)=>if o+n≤c.size then some ((c.toList.drop o).take n)else none
 |_=>none
def yR:Value→Value→Bool
 | .string _,.string _=>true
 | .int k _,.int k' _=>decide (k=k')
 | .bool _,.bool _=>true
 |_,_=>false
def vI:Value→Value→Bool
 | .string a,.string b=>a==b
 | .int _ a,.int _ b=>a==b
 | .bool a,.bool b=>a==b
 |_,_=>false
def kM:List Value→List Value→Bool
 | [], []=>true
 |x::xs,y::ys=>yR x y&&kM xs ys
 |_,_=>false
def tT:List Value→List Value→Bool
 | [], []=>true
 |x::xs,y::ys=>vI x y&&tT xs ys
 |_,_=>false
def cI:Value→Value→Bool
 | .string _,.string _=>true
 | .int k _,.int k' _=>decide (k=k')
 | .bool _,.bool _=>true
 | .agg a,.agg b=>kM a.toList b.toList
 |_,_=>false
def ft:Value→Value→Bool
 | .string a,.string b=>a==b
 | .int _ a,.int _ b=>a==b
 | .bool a,.bool b=>a==b
 | .agg a,.agg b=>tT a.toList b.toList
 |_,_=>false
def ig(k:Value):List (Value×Value)→Option Value
 | []=>none
 |e::es=>bif ft k e.1 then some e.2 else ig k es
def gk(es:Array MapEntry):List (Value×Value):=es.toList.map fun e=>(e.key,e.val)
def tR(blk:Nat→Option Obj)(g:Nat)(k:Value):Option (Option Value):=match blk g with
 |some (.map es _)=>bif (gk es).all fun e=>cI k e.1 then some (ig k (gk es))else none
 |_=>none
def Ex(blk:Nat→Option Obj)(g:Nat):Option Nat:=match blk g with
 |some (.map es _)=>some es.size
 |_=>none
def zO(blk:Nat→Option Obj)(i:Nat):Option Value:=match blk i with
 |some (.mapIter (some m) _ seen stepped)=>match seen.back?,blk m with
  |some st,some (.map es clock)=>bif clock==stepped then(es.find? fun e=>e.born==st).map fun e=> .tuple #[e.key,e.val]else none
  |_,_=>none
 |_=>none
structure aa where
 blk:Nat→Option Obj
 rd:Nat→Nat→Nat→Option (List Value)
 rdeq:rd=xz blk
 look:Nat→Value→Option (Option Value)
 lookeq:look=tR blk
 ent:Nat→Option Value
 enteq:ent=zO blk
 cnt:Nat→Option Nat
 cnteq:cnt=Ex blk
def aa.of(blk:Nat→Option Obj):aa:=⟨blk,xz blk,rfl,tR blk,rfl,zO blk,rfl,Ex blk,rfl⟩
def aa.void:aa:=aa.of fun _=>Option.none
structure MX where
 A:aa
 D:Prop→Bool
 hD:∀p,D p=true↔p
 op:Bool
 al:TypeId→Bool
def MX.none:MX:=⟨aa.void,fun p=> @decide p (Classical.propDecidable p),fun p=>by simp,false,fun _=>false⟩
structure Mem where
 blk:Nat→Option Obj
 os:Os
 out:Array (Nat×ByteArray)
 tape:Nat→Question→Nat
 gl:List (Nat×List Value)
 glok:∀g cs,(g,cs)∈gl→∃c t fz,blk g=some (.cells c t fz)∧∀(i:Nat) v,cs[i]? =some v→c[i]? =some v
 X:MX
abbrev Mem.A(M:Mem):aa:=M.X.A
abbrev Mem.D(M:Mem):Prop→Bool:=M.X.D
def Mem.put(M:Mem)(A:aa):Mem:=match M with
 |⟨blk,os,out,tape,gl,glok,⟨_,D,hD,op,al⟩⟩=>⟨blk,os,out,tape,gl,glok,⟨A,D,hD,op,al⟩⟩
def Mem.still(M:Mem):Mem:=M.put aa.void
def Mem.le(M M':Mem):Prop:=(∀k o,M.blk k=some o→M'.blk k=some o)∧M'.os=M.os∧M'.out=M.out∧M'.tape=M.tape
theorem Mem.le_refl(M:Mem):M.le M:=⟨fun _ _ h=>h,rfl,rfl,rfl⟩
theorem Mem.le_trans{M M' M'':Mem}(h:M.le M')(h':M'.le M''):M.le M'':=
 ⟨fun k o hk=>h'.1 k o (h.1 k o hk),h'.2.1.trans h.2.1,h'.2.2.1.trans h.2.2.1,h'.2.2.2.trans h.2.2.2⟩
structure HS where
 H:T bD
 nx:Nat
 M:Mem
def HS.put(h:HS)(A:aa):HS:=match h with
 |⟨H,nx,M⟩=>⟨H,nx,M.put A⟩
theorem Mem.cH(M:Mem)(A:aa):M.le (M.put A):=⟨fun _ _ h=>h,rfl,rfl,rfl⟩
def aQ(ρ:Nat→Loc)(e:SV×SV×Nat):MapEntry:=⟨e.1.den ρ,e.2.1.den ρ,e.2.2⟩
def bD.lt(ρ:Nat→Loc)(n:Nat):bD→Prop
 | .cells cs _ _=>∀x∈cs,x.lt ρ n
 | .map es _=>∀e∈es,e.1.lt ρ n∧e.2.1.lt ρ n
 | .siter _ _=>True
 | .miter m _ _ _=>m<n
def Fz(n:Nat)(fz:Nat×Nat):Prop:=fz.1=fz.2∨n≤fz.1
theorem Fz.not{n:Nat}{fz:Nat×Nat}(h:Fz n fz)(i:Nat)(hi:i<n):¬(fz.1≤i∧i<fz.2):=by
 rcases h with h|h<;>omega
def Whole(τ es off len n t:Nat):Prop:=τ=0∨(τ=t+1∧off=0∧(es=0→n=len))
def bD.Rel(ρ:Nat→Loc)(L:Loc)(w:World):bD→Prop
 | .cells cs es τ=>∃c t fz,w.heap[L.blk]? =some (.cells c t fz)∧(∀i x,cs[i]? =some x→c[L.off+i]? =some (x.den ρ))∧
    L.off+L.cap*es≤c.size∧(es=0∨cs.length≤L.cap*es)∧Fz c.size fz∧Whole τ es L.off cs.length c.size t
 | .map es clock=>w.heap[L.blk]? =some (.map (es.map (aQ ρ)).toArray clock)
 | .siter s pos=>L.off=0∧w.heap[L.blk]? =some (.stringIter ⟨s.toArray⟩ pos)
 | .miter m since seen last=>L.off=0∧w.heap[L.blk]? =some (.mapIter (some (ρ m).blk) since seen.toArray last)
structure aL(ρ:Nat→Loc)(h:HS)(w:World):Prop where
 os:w.os=h.M.os
 out:w.output=h.M.out
 tape:w.tape=h.M.tape
 mem:∀k o,h.M.blk k=some o→w.heap[k]? =some o
 blk:∀b B,h.H.get b=some B→b<h.nx∧B.lt ρ h.nx∧B.Rel ρ (ρ b) w
 inj:∀b b' B B',h.H.get b=some B→h.H.get b'=some B'→(ρ b).blk=(ρ b').blk→b=b'
 apart:∀b B,h.H.get b=some B→h.M.blk (ρ b).blk=none
 are:∀k o,h.M.A.blk k=some o→w.heap[k]? =some o
 aprA:∀b B,h.H.get b=some B→h.M.A.blk (ρ b).blk=none
 disj:∀k o,h.M.A.blk k=some o→h.M.blk k=none
theorem bD.Rel.size{ρ:Nat→Loc}{L:Loc}{w:World}{B:bD}(h:B.Rel ρ L w):L.blk<w.heap.size:=by
 cases B with
 |cells cs es τ=>obtain⟨c,t,fz,h,_⟩:=h;exact(Array.getElem?_eq_some_iff.1 h).1
 |map es clock=>exact(Array.getElem?_eq_some_iff.1 h).1
 |siter s pos=>exact(Array.getElem?_eq_some_iff.1 h.2).1
 |miter m since seen last=>exact(Array.getElem?_eq_some_iff.1 h.2).1
theorem bD.Rel.of{ρ ρ':Nat→Loc}{L:Loc}{w w':World}{B:bD}{n:Nat}(h:B.Rel ρ L w)(hx:Ext ρ ρ' n)(hl:B.lt ρ n)(hw:w'.heap[L.blk]? =w.heap[L.blk]?):B.Rel ρ' L w':=by
 cases B with
 |cells cs es τ=>
  obtain⟨c,t,fz,h1,h2,h3⟩:=h;exact⟨c,t,fz,hw.trans h1,fun i x hi=>by rw [SV.dN hx x (hl x (List.mem_of_getElem? hi))];exact h2 i x hi,h3⟩
 |map es clock=>
  show w'.heap[L.blk]? =_
  rw [hw]
  have:es.map (aQ ρ')=es.map (aQ ρ):=List.map_congr_left fun e he=>by
   simp [aQ,SV.dN hx _ (hl e he).1,SV.dN hx _ (hl e he).2]
  rw [this];exact h
 |siter s pos=>exact⟨h.1,hw.trans h.2⟩
 |miter m since seen last=>exact⟨h.1,by rw [hx m hl];exact hw.trans h.2⟩
theorem bD.eK{ρ ρ':Nat→Loc}{n n':Nat}(hx:Ext ρ ρ' n)(h:n≤n'){B:bD}(hB:B.lt ρ n):B.lt ρ' n':=by
 cases B with
 |cells cs es τ=>exact fun x k=>SV.eK hx h x (hB x k)
 |map es clock=>exact fun e he=>⟨SV.eK hx h _ (hB e he).1,SV.eK hx h _ (hB e he).2⟩
 |siter s pos=>trivial
 |miter m since seen last=>exact Nat.lt_of_lt_of_le hB h
theorem aL.drawn{ρ:Nat→Loc}{h:HS}{w:World}(H:aL ρ h w)(n:Nat):aL ρ h { w with drawn:=n } :=
 ⟨H.os,H.out,H.tape,H.mem,fun b B hb=>let ⟨h1,h2,h3⟩:=H.blk b B hb;⟨h1,h2,h3.of (Ext.refl ρ h.nx) h2 rfl⟩,H.inj,H.apart,H.are,H.aprA,H.disj⟩
def extend(ρ:Nat→Loc)(n:Nat)(L:Loc):Nat→Loc:=fun b=>if b=n then L else ρ b
theorem aS(ρ:Nat→Loc)(n:Nat)(L:Loc):Ext ρ (extend ρ n L) n:=fun b hb=>by simp [extend,Nat.ne_of_lt hb]
theorem bb(ρ:Nat→Loc)(n:Nat)(L:Loc):extend ρ n L n=L:=by simp [extend]
theorem aL.alloc{ρ:Nat→Loc}{h:HS}{w:World}(H:aL ρ h w){o:Obj}{B:bD}{L:Loc}(hL:L.blk=w.heap.size)(hB:B.lt ρ h.nx)
  (hR:∀w':World,w'.heap[L.blk]? =some o→B.Rel ρ L w'):
  aL (extend ρ h.nx L) { h with H:=h.H.set h.nx B,nx:=h.nx+1 } { w with heap:=w.heap.push o } :=by
 have hold:∀k,k<w.heap.size→(w.heap.push o)[k]? =w.heap[k]? :=fun k hk=>by rw [Array.getElem?_push,if_neg (by omega)]
 have apart':∀(blk:Nat→Option Obj),(∀k o',blk k=some o'→w.heap[k]? =some o')→(∀b B',h.H.get b=some B'→blk (ρ b).blk=none)→∀b B',(h.H.set h.nx B).get b=some B'→blk ((extend ρ h.nx L) b).blk=none:=fun blk hm ha b B' hb=>by
  rcases T.bW hb with⟨rfl,rfl⟩|⟨hne,hb⟩
  ·rw [bb]
   cases hm':blk L.blk with
   |none=>rfl
   |some o'=>have:=(Array.getElem?_eq_some_iff.1 (hm _ _ hm')).1;omega
  ·rw [aS ρ h.nx L b (H.blk b B' hb).1];exact ha b B' hb
 refine⟨H.os,H.out,H.tape,fun k o' hk=> ?_,fun b B' hb=> ?_,fun b b' B1 B2 hb hb' he=> ?_,apart' _ H.mem H.apart,fun k o' hk=> ?_,apart' _ H.are H.aprA,H.disj⟩
 ·have:=H.mem k o' hk
  show(w.heap.push o)[k]? =_
  rw [hold k (Array.getElem?_eq_some_iff.1 this).1];exact this
 ·rcases T.bW hb with⟨rfl,rfl⟩|⟨hne,hb⟩
  ·refine⟨Nat.lt_succ_self _,bD.eK (aS _ _ _) (Nat.le_succ _) hB,?_⟩
   rw [bb];exact(hR _ (by show(w.heap.push o)[L.blk]? =_;rw [hL];simp)).of (aS _ _ _) hB rfl
  ·obtain⟨h1,h2,h3⟩:=H.blk b B' hb
   refine⟨Nat.lt_succ_of_lt h1,bD.eK (aS _ _ _) (Nat.le_succ _) h2,?_⟩;rw [aS ρ h.nx L b h1];exact h3.of (aS _ _ _) h2 (hold _ h3.size)
 ·rcases T.bW hb with⟨rfl,rfl⟩|⟨hne,hb⟩<;>rcases T.bW hb' with⟨rfl,rfl⟩|⟨hne',hb'⟩
  ·rfl
  ·obtain⟨h1,h2,h3⟩:=H.blk b' B2 hb'
   rw [bb,aS ρ h.nx L b' h1]at he;have:=h3.size;omega
  ·obtain⟨h1,h2,h3⟩:=H.blk b B1 hb
   rw [bb,aS ρ h.nx L b h1]at he;have:=h3.size;omega
  ·rw [aS ρ h.nx L b (H.blk b B1 hb).1,aS ρ h.nx L b' (H.blk b' B2 hb').1]at he
   exact H.inj b b' B1 B2 hb hb' he
 ·have:=H.are k o' hk
  show(w.heap.push o)[k]? =_
  rw [hold k (Array.getElem?_eq_some_iff.1 this).1];exact this
theorem aL.write{ρ:Nat→Loc}{h:HS}{w w':World}(H:aL ρ h w){b:Nat}{B B':bD}(hb:h.H.get b=some B)(hB:B'.lt ρ h.nx)
  (hR:B'.Rel ρ (ρ b) w') (hother:∀k,k≠(ρ b).blk→w'.heap[k]? =w.heap[k]?) (h1:w'.os=w.os) (h2:w'.output=w.output) (h3:w'.tape=w.tape):
  aL ρ { h with H:=h.H.set b B' } w':=by
 refine⟨h1.trans H.os,h2.trans H.out,h3.trans H.tape,fun k o hk=> ?_,fun c C hc=> ?_,fun c c' C C' hc hc' he=> ?_,fun c C hc=> ?_,fun k o hk=> ?_,fun c C hc=> ?_,H.disj⟩
 ·rw [hother k (fun e=>by subst e;rw [show h.M.blk (ρ b).blk=none from H.apart b B hb]at hk;cases hk)]
  exact H.mem k o hk
 ·rcases T.bW hc with⟨rfl,rfl⟩|⟨hne,hc⟩
  ·exact⟨(H.blk _ _ hb).1,hB,hR⟩
  ·obtain⟨k1,k2,k3⟩:=H.blk c C hc
   exact⟨k1,k2,k3.of (Ext.refl ρ h.nx) k2 (hother _ fun e=>hne (H.inj c b C B hc hb e))⟩
 ·rcases T.bW hc with⟨rfl,rfl⟩|⟨hne,hc2⟩<;>rcases T.bW hc' with⟨rfl,rfl⟩|⟨hne',hc2'⟩
  ·rfl
  ·exact H.inj _ _ _ _ hb hc2' he
  ·exact H.inj _ _ _ _ hc2 hb he
  ·exact H.inj _ _ _ _ hc2 hc2' he
 ·rcases T.bW hc with⟨rfl,rfl⟩|⟨hne,hc⟩
  ·exact H.apart _ _ hb
  ·exact H.apart _ _ hc
 ·rw [hother k (fun e=>by subst e;rw [show h.M.A.blk (ρ b).blk=none from H.aprA b B hb]at hk;cases hk)]
  exact H.are k o hk
 ·rcases T.bW hc with⟨rfl,rfl⟩|⟨hne,hc⟩
  ·exact H.aprA _ _ hb
  ·exact H.aprA _ _ hc
theorem aL.drop{ρ:Nat→Loc}{h:HS}{w:World}(H:aL ρ h w)(b:Nat):aL ρ { h with H:=h.H.del b } w:=
 ⟨H.os,H.out,H.tape,H.mem,fun c C hc=>H.blk c C (T.cR hc).2,fun c c' C C' hc hc'=>H.inj c c' C C' (T.cR hc).2 (T.cR hc').2,fun c C hc=>H.apart c C (T.cR hc).2,H.are,fun c C hc=>H.aprA c C (T.cR hc).2,H.disj⟩
theorem aL.sS{ρ:Nat→Loc}{h:HS}{w w':World}(H:aL ρ h w){A':aa}(h1:w'.os=w.os)(h2:w'.output=w.output)(h3:w'.tape=w.tape)
  (hk:∀k,h.M.A.blk k=none→k<w.heap.size→w'.heap[k]? =w.heap[k]?) (ha:∀k o,A'.blk k=some o→w'.heap[k]? =some o) (hn:∀k o,A'.blk k=some o→(∃o',h.M.A.blk k=some o')∨w.heap.size≤k):aL ρ (h.put A') w':=by
 have old:∀k o,h.M.blk k=some o→h.M.A.blk k=none∧k<w.heap.size:=fun k o hb=>by
  refine⟨?_,(Array.getElem?_eq_some_iff.1 (H.mem k o hb)).1⟩
  cases hA:h.M.A.blk k with
  |none=>rfl
  |some o'=>have:=H.disj k o' hA;rw [this]at hb;cases hb
 refine⟨h1.trans H.os,h2.trans H.out,h3.trans H.tape,fun k o hb=> ?_,fun b B hb=> ?_,H.inj,H.apart,ha,fun b B hb=> ?_,fun k o hb=> ?_⟩
 ·have hb:h.M.blk k=some o:=hb
  rw [hk k (old k o hb).1 (old k o hb).2];exact H.mem k o hb
 ·obtain⟨k1,k2,k3⟩:=H.blk b B hb
  exact⟨k1,k2,k3.of (Ext.refl ρ h.nx) k2 (hk _ (H.aprA b B hb) k3.size)⟩
 ·show A'.blk (ρ b).blk=none
  cases hA:A'.blk (ρ b).blk with
  |none=>rfl
  |some o=>
   exfalso;rcases hn _ o hA with⟨o',h'⟩|h'
   ·rw [H.aprA b B hb]at h';cases h'
   ·have:=(H.blk b B hb).2.2.size;omega
 ·show h.M.blk k=none
  cases hM:h.M.blk k with
  |none=>rfl
  |some o'=>
   exfalso;obtain⟨k1,k2⟩:=old k o' hM;rcases hn _ o hb with⟨o',h'⟩|h'
   ·rw [k1]at h';cases h'
   ·omega
structure cG(dfs:List Deferred)(ρ:Nat→Loc)(tm:T SV)(sz nx:Nat)(a:Act):Prop where
 size:a.tmps.size=sz
 at_:∀i x,tm.get i=some x→x.lt ρ nx∧a.tmps[i]? =some (x.den ρ)
 defers:a.defers=dfs
theorem cG.ext{ρ ρ':Nat→Loc}{tm:T SV}{sz nx nx':Nat}{a:Act}(h:cG dfs ρ tm sz nx a)(hx:Ext ρ ρ' nx)(hn:nx≤nx'):cG dfs ρ' tm sz nx' a:=
 ⟨h.size,fun i x hi=>let ⟨h1,h2⟩:=h.at_ i x hi;⟨SV.eK hx hn x h1,by rw [SV.dN hx x h1];exact h2⟩,h.defers⟩
theorem cG.put{ρ:Nat→Loc}{tm:T SV}{sz nx d:Nat}{a:Act}{x:SV}(h:cG dfs ρ tm sz nx a)(hx:x.lt ρ nx)(hd:d<sz):cG dfs ρ (tm.set d x) sz nx (a.put (some d) (x.den ρ)):=by
 refine⟨by simp [Act.put,h.size],fun i y hi=> ?_,h.defers⟩;rcases T.bW hi with⟨rfl,rfl⟩|⟨hne,hi⟩
 ·refine⟨hx,?_⟩
  simp only [Act.put,Array.getElem?_setIfInBounds_self];rw [if_pos (by rw [h.size];exact hd)]
 ·obtain⟨h1,h2⟩:=h.at_ i y hi
  refine⟨h1,?_⟩;simp only [Act.put];rw [Array.getElem?_setIfInBounds_ne (Ne.symm hne)];exact h2
theorem cG.same{ρ:Nat→Loc}{tm:T SV}{sz nx d:Nat}{a:Act}{x y:SV}(h:cG dfs ρ tm sz nx a)(hd:tm.get d=some y)(he:x.den ρ=y.den ρ)(hx:x.lt ρ nx):cG dfs ρ (tm.set d x) sz nx a:=by
 refine⟨h.size,fun i z hi=> ?_,h.defers⟩;rcases T.bW hi with⟨rfl,rfl⟩|⟨hne,hi⟩
 ·exact⟨hx,by rw [he];exact(h.at_ _ _ hd).2⟩
 ·exact h.at_ _ _ hi
end
end Go.Sx
namespace Go.Sx
noncomputable section
variable {dfs : List Deferred}
structure STy where
 und:TypeDesc
 size:Nat
 bytes:Nat
 zero:Value
def nth{α:Type}(l:List α):Nat→Option α:=
 List.rec (motive:=fun _=>Nat→Option α) (fun _=>none) (fun x _ ih n=>Nat.rec (motive:=fun _=>Option α) (some x) (fun m _=>ih m) n) l
theorem kq{α:Type} :∀(l:List α) (n:Nat),nth l n=l[n]?
 | [],_=>rfl
 |_::_,0=>rfl
 |_::xs,n+1=>kq xs n
def En{α:Type}(n:Nat):List α→List α:=
 Nat.rec (motive:=fun _=>List α→List α) (fun l=>l) (fun _ ih l=>List.rec (motive:=fun _=>List α) [] (fun _ xs _=>ih xs) l) n
theorem wh{α:Type} :∀(n:Nat) (l:List α),En n l=l.drop n
 |0,_=>rfl
 |_+1, []=>rfl
 |n+1,_::xs=>wh n xs
def xd{α:Type}(n:Nat):List α→List α:=
 Nat.rec (motive:=fun _=>List α→List α) (fun l=>l) (fun _ ih l=>En 16 (ih l)) n
theorem rQ{α:Type}(l:List α):∀(n:Nat),xd n l=l.drop (16*n)
 |0=>rfl
 |n+1=>by
  show En 16 (xd n l)=_
  rw [wh,rQ l n,List.drop_drop];congr 1
def far{α:Type}(l:List α)(i:Nat):Option α:=nth (xd (Nat.div i 16) l) (Nat.mod i 16)
theorem Ed{α:Type}(l:List α)(i:Nat):far l i=l[i]? :=by
 unfold far;rw [kq,rQ,List.getElem?_drop];congr 1;exact Nat.div_add_mod i 16
def tyI(P:Program)(t:TypeId):Option TypeInfo:=match far P.types.toList t with
 |some i=>some i
 |none=>P.info? t
theorem tyI_eq(P:Program)(t:TypeId):tyI P t=P.info? t:=by
 unfold tyI
 split
 ·rename_i i h
  rw [Ed,Array.getElem?_toList]at h;unfold Tables.info?;have:=(Array.getElem?_eq_some_iff.1 h).1;rw [if_pos this,h]
 ·rfl
def ty(P:Program)(t:TypeId):Option STy:=
 match tyI P t with
 |none=>none
 |some i=>match i.zero with
  |none=>none
  |some z=>match i.desc with
   | .named _ u=>match tyI P u with
     |some j=>some ⟨j.desc,i.size,i.bytes,z⟩
     |none=>none
   |d=>some ⟨d,i.size,i.bytes,z⟩
def Eb(P:Program)(f:FuncId):Option Func:=far P.funcs.toList f
theorem Ea{P:Program}{f:FuncId}{fn:Func}(h:Eb P f=some fn):P.funcs[f]? =some fn:=by
 unfold Eb at h;rw [Ed]at h;simpa using h
structure TyFacts(P:Program)(t:TypeId)(s:STy):Prop where
 und:P.underlying t=some s.und
 info:∃i,P.info? t=some i∧i.size=s.size∧i.bytes=s.bytes∧i.zero=some s.zero
theorem bK{P:Program}{t:TypeId}{s:STy}(h:ty P t=some s):TyFacts P t s:=by
 unfold ty at h;simp only [tyI_eq]at h
 split at h
 ·cases h
 ·rename_i i hi
  split at h
  ·cases h
  ·rename_i z hz
   split at h
   ·rename_i n u hd
    split at h
    ·rename_i j hj
     injection h with h;subst h
     refine⟨?_,i,hi,rfl,rfl,hz⟩;unfold Program.underlying;rw [hi];obtain⟨d⟩:=i;simp only at hd;subst hd;simp [hj]
    ·cases h
   ·rename_i hd
    injection h with h;subst h
    refine⟨?_,i,hi,rfl,rfl,hz⟩;unfold Program.underlying;rw [hi]
    split
    ·rename_i n u _ _ _ _ _ _ _ _ he
     injection he with he
     subst he;exact absurd rfl (hd _ _)
    ·rename_i he
     injection he with he;subst he;rfl
    ·rename_i he;cases he
section
variable {P:Program} {t:TypeId} {s:STy} (w:World)
theorem aq(h:ty P t=some s):(underlying t).run P w= .ok s.und w:=run_underlying (bK h).und w
theorem fB(h:ty P t=some s):∃i,(typeInfo t).run P w= .ok i w∧i.size=s.size∧i.bytes=s.bytes∧i.zero=some s.zero:=by
 obtain⟨i,hi,h1,h2,h3⟩:=(bK h).info;exact⟨i,by simp [typeInfo,hi],h1,h2,h3⟩
theorem bp(h:ty P t=some s):(sizeOf t).run P w= .ok s.size w:=by
 obtain⟨i,hi,h1,_⟩:=fB w h;simp [sizeOf,hi,h1]
theorem cu(h:ty P t=some s):(zeroValue t).run P w= .ok s.zero w:=by
 obtain⟨i,hi,_,_,h3⟩:=fB w h;simp [zeroValue,hi,h3]
def TypeDesc.isAgg:TypeDesc→Bool
 | .struct _| .array _ _=>true
 |_=>false
theorem mB(h:ty P t=some s):(isAgg t).run P w= .ok (TypeDesc.isAgg s.und) w:=by
 simp only [isAgg,Sem.run_bind,aq w h,Result.andThen_ok]
 cases s.und<;>rfl
end
def opd(tm:T SV):Operand→Option SV
 | .tmp t=>tm.get t
 | .const v=>some (.v v)
 | .global g=>some (.v (.pointer (some ⟨g,0,none⟩)))
 | .func f=>some (.fn f [])
theorem aT{ρ:Nat→Loc}{tm:T SV}{sz nx:Nat}{a:Act}(A:cG dfs ρ tm sz nx a){x:Operand}{v:SV}(h:opd tm x=some v):a.eval x=v.den ρ∧v.lt ρ nx:=by
 cases x with
 |tmp t=>
  obtain⟨h1,h2⟩:=A.at_ t v h;exact⟨by simp [Act.eval,h2],h1⟩
 |const c=>injection h with h;subst h;exact⟨rfl,trivial⟩
 |global g=>injection h with h;subst h;exact⟨rfl,trivial⟩
 |func f=>injection h with h;subst h;exact⟨rfl,trivial⟩
def jR(tm:T SV):List Operand→Option (List SV)
 | []=>some []
 |x::xs=>match opd tm x with
  |none=>none
  |some v=>match jR tm xs with
   |none=>none
   |some vs=>some (v::vs)
theorem dw{ρ:Nat→Loc}{tm:T SV}{sz nx:Nat}{a:Act}(A:cG dfs ρ tm sz nx a):∀(l:List Operand) (vs:List SV),jR tm l=some vs→
  l.map a.eval=vs.map (SV.den ρ)∧∀v∈vs,v.lt ρ nx:=by
 intro l
 induction l with
 |nil=>intro vs h;injection h with h;subst h;exact⟨rfl,fun _ h=>by cases h⟩
 |cons x xs ih=>
  intro vs h;unfold jR at h
  split at h
  ·cases h
  ·rename_i v hv
   split at h
   ·cases h
   ·rename_i us hus
    injection h with h;subst h
    obtain⟨h1,h2⟩:=aT A hv;obtain⟨h3,h4⟩:=ih us hus
    exact⟨by simp [h1,h3],fun y hy=>(by
     rcases List.mem_cons.1 hy with rfl|hy
     ·exact h2
     ·exact h4 y hy)⟩
def SV.str? :SV→Option (List UInt8)
 | .str l=>some l
 | .v (.string s)=>some s.data.toList
 |_=>none
theorem SV.bF{ρ:Nat→Loc}{x:SV}{l:List UInt8}(h:x.str? =some l):x.den ρ= .string ⟨l.toArray⟩:=by
 unfold SV.str? at h
 split at h
 ·injection h with h;subst h;rfl
 ·injection h with h;subst h;rfl
 ·cases h
def SV.int? :SV→Option (IntKind×Int)
 | .v (.int k n)=>some (k,n)
 |_=>none
theorem SV.bm{ρ:Nat→Loc}{x:SV}{k:IntKind}{n:Int}(h:x.int? =some (k,n)):x.den ρ= .int k n:=by
 unfold SV.int? at h
 split at h
 ·injection h with h;injection h with h1 h2;subst h1;subst h2;rfl
 ·cases h
def jU:List UInt8→List UInt8→Bool
 | [], []=>true
 |a::l,b::m=>bif Nat.beq a.toNat b.toNat then jU l m else false
 |_,_=>false
theorem iB:∀(l m:List UInt8),jU l m=(l==m)
 | [], []=>rfl
 | [],_::_=>rfl
 |_::_, []=>rfl
 |a::l,b::m=>by
  have ih:=iB l m;simp only [jU,ih]
  by_cases h:a=b
  ·subst h;simp [Nat.beq_refl]
  ·have:Nat.beq a.toNat b.toNat=false:=by
     cases hb:Nat.beq a.toNat b.toNat with
     |false=>rfl
     |true=>exact absurd (UInt8.toNat_inj.1 (Nat.eq_of_beq_eq_true hb)) h
   simp [this,h]
def ltL:List UInt8→List UInt8→Bool
 |_, []=>false
 | [],_::_=>true
 |a::l,b::m=>bif Nat.blt a.toNat b.toNat then true else(bif Nat.beq a.toNat b.toNat then ltL l m else false)
theorem DJ:∀(l m:List UInt8),ltL l m=Op.bytesLess l m
 | [], []=>rfl
 |_::_, []=>rfl
 | [],_::_=>rfl
 |a::l,b::m=>by
  have ih:=DJ l m;simp only [ltL,Op.bytesLess,ih]
  have h1:Nat.blt a.toNat b.toNat=decide (a<b):=by
   by_cases hlt:a<b
   ·have h':a.toNat<b.toNat:=UInt8.lt_iff_toNat_lt.1 hlt
    rw [decide_eq_true hlt];exact Nat.ble_eq.mpr h'
   ·have h':¬a.toNat<b.toNat:=fun h=>hlt (UInt8.lt_iff_toNat_lt.2 h)
    rw [decide_eq_false hlt]
    cases hb:Nat.blt a.toNat b.toNat with
    |false=>rfl
    |true=>exact absurd (Nat.le_of_ble_eq_true hb) h'
  have h2:Nat.beq a.toNat b.toNat=(a==b):=by
   by_cases h:a=b
   ·subst h;simp [Nat.beq_refl]
   ·have:Nat.beq a.toNat b.toNat=false:=by
      cases hb:Nat.beq a.toNat b.toNat with
      |false=>rfl
      |true=>exact absurd (UInt8.toNat_inj.1 (Nat.eq_of_beq_eq_true hb)) h
    simp [this,h]
  rw [h1,h2]
  cases decide (a<b)<;>cases (a==b)<;>simp
def bitsOf(op:BinOp)(k:IntKind)(a b:Int):Int:=
 let x:=BitVec.ofInt k.bits a
 let y:=BitVec.ofInt k.bits b
 match op with
 | .and=>k.wrap (x&&&y).toNat
 | .or=>k.wrap (x|||y).toNat
 | .xor=>k.wrap (x^^^y).toNat
 |_=>k.wrap (x&&& ~~~y).toNat
def kEq:IntKind→IntKind→Bool
 | .i8,.i8| .i16,.i16| .i32,.i32| .i64,.i64| .u8,.u8| .u16,.u16| .u32,.u32| .u64,.u64=>true
 |_,_=>false
theorem ix{k k':IntKind} :kEq k k'=true↔k=k':=by cases k<;>cases k'<;>decide
def qJ(op:BinOp)(k k':IntKind)(a b:Int):Option (Bool×SV):=
 match op with
 | .shl=>some (decide (0≤b),.v (.int k (k.wrap (a*2^(min b.toNat k.bits)))))
 | .shr=>some (decide (0≤b),.v (.int k (a.fdiv (2^(min b.toNat k.bits)))))
 | .add=>some (kEq k k',.v (.int k (k.wrap (a+b))))
 | .sub=>some (kEq k k',.v (.int k (k.wrap (a-b))))
 | .mul=>some (kEq k k',.v (.int k (k.wrap (a*b))))
 | .quo=>some (kEq k k'&& !decide (b=0),.v (.int k (k.wrap (a.tdiv b))))
 | .rem=>some (kEq k k'&& !decide (b=0),.v (.int k (a.tmod b)))
 | .and=>some (kEq k k',.v (.int k (bitsOf .and k a b)))
 | .or=>some (kEq k k',.v (.int k (bitsOf .or k a b)))
 | .xor=>some (kEq k k',.v (.int k (bitsOf .xor k a b)))
 | .andNot=>some (kEq k k',.v (.int k (bitsOf .andNot k a b)))
 | .eql=>some (kEq k k',.v (.bool (decide (a=b))))
 | .neq=>some (kEq k k',.v (.bool (!decide (a=b))))
 | .lss=>some (kEq k k',.v (.bool (decide (a<b))))
 | .leq=>some (kEq k k',.v (.bool (decide (a≤b))))
 | .gtr=>some (kEq k k',.v (.bool (decide (b<a))))
 | .geq=>some (kEq k k',.v (.bool (decide (b≤a))))
theorem yj{P:Program}{op:BinOp}{k k':IntKind}{a b:Int}{r:Bool}{x:SV}(h:qJ op k k' a b=some (r,x))(hr:r=true)(t:TypeId)(ρ:Nat→Loc)(w:World):
  (binOp op t (.int k a) (.int k' b)).run P w= .ok (x.den ρ) w:=by
 subst hr
 cases op<;>simp only [qJ,Option.some.injEq,Prod.mk.injEq,Bool.and_eq_true,ix,Bool.not_eq_true',decide_eq_true_eq,decide_eq_false_iff_not]at h<;>obtain⟨h,rfl⟩:=h
 case shl=>simp [binOp,Op.shift,SV.den,show ¬b<0 by omega]
 case shr=>simp [binOp,Op.shift,SV.den,show ¬b<0 by omega]
 case quo=>obtain⟨rfl,h⟩:=h;simp [binOp,Op.intDiv,h,SV.den]
 case rem=>obtain⟨rfl,h⟩:=h;simp [binOp,Op.intDiv,h,SV.den]
 all_goals(subst h;simp [binOp,Op.intArith,Op.intBits,Op.intCmp,bitsOf,SV.den])
 all_goals(by_cases hab:a=b<;>simp [hab])
theorem Bq{op:BinOp}{k k':IntKind}{a b:Int}{r:Bool}{x:SV}(h:qJ op k k' a b=some (r,x))(ρ:Nat→Loc)(n:Nat):x.lt ρ n:=by
 cases op<;>simp only [qJ,Option.some.injEq,Prod.mk.injEq]at h<;>obtain⟨_,rfl⟩:=h<;>trivial
def pR(op:BinOp)(l m:List UInt8):Option (Bool×SV):=
 match op with
 | .add=>some (Nat.ble (l.length+m.length) 9223372036854775807,.str (l++m))
 | .eql=>some (true,.v (.bool (jU l m)))
 | .neq=>some (true,.v (.bool (!jU l m)))
 | .lss=>some (true,.v (.bool (ltL l m)))
 | .leq=>some (true,.v (.bool (ltL l m||jU l m)))
 | .gtr=>some (true,.v (.bool (!(ltL l m||jU l m))))
 | .geq=>some (true,.v (.bool (!ltL l m)))
 |_=>none
theorem xg{P:Program}{op:BinOp}{l m:List UInt8}{r:Bool}{x:SV}(h:pR op l m=some (r,x))(hr:r=true)(t:TypeId)(ρ:Nat→Loc)(w:World):
  (binOp op t (.string ⟨l.toArray⟩) (.string ⟨m.toArray⟩)).run P w= .ok (x.den ρ) w:=by
 subst hr;have e1:(⟨l.toArray⟩:ByteArray).toList=l:=by rw [ByteArray.toList_eq]
 have e2:(⟨m.toArray⟩:ByteArray).toList=m:=by rw [ByteArray.toList_eq]
 cases op<;>simp only [pR,Option.some.injEq,Prod.mk.injEq,reduceCtorEq]at h<;>obtain⟨h,rfl⟩:=h
 case add=>
  have h:=Nat.le_of_ble_eq_true h
  have hs:¬((((⟨l.toArray⟩:ByteArray).size+(⟨m.toArray⟩:ByteArray).size:Nat):Int)>IntKind.i64.max):=by
   show ¬(((l.toArray.size+m.toArray.size:Nat):Int)>9223372036854775807)
   simp only [List.size_toArray];omega
  have hap:(⟨l.toArray⟩:ByteArray)++⟨m.toArray⟩=⟨(l++m).toArray⟩:=by
   apply ByteArray.ext;simp
  simp only [binOp,Op.stringOp,if_neg hs,hap,SV.den];rfl
 all_goals simp only [binOp,Op.stringOp,e1,e2,SV.den,iB,DJ]
 all_goals rfl
theorem Aj{op:BinOp}{l m:List UInt8}{r:Bool}{x:SV}(h:pR op l m=some (r,x))(ρ:Nat→Loc)(n:Nat):x.lt ρ n:=by
 cases op<;>simp only [pR,Option.some.injEq,Prod.mk.injEq,reduceCtorEq]at h<;>obtain⟨_,rfl⟩:=h<;>trivial
end
end Go.Sx
namespace Go.Sx
noncomputable section
def cA:List Field→List SV→List SV→Nat→(Nat→Option STy)→Option Bool
 | [],_,_,_,_=>some true
 |f::fs,x::xs,y::ys,i,tys=>
  bif !(Nat.beq f.offset i)||(f.name== "_")then none else
  match tys f.type with
  |none=>none
  |some s=>
   match s.und,x,y with
   | .bool,.v (.bool a),.v (.bool b)=>(cA fs xs ys (i+1) tys).map fun r=>(a==b)&&r
   | .int _,.v (.int k a),.v (.int k' b)=>bif kEq k k' then(cA fs xs ys (i+1) tys).map fun r=>decide (a=b)&&r else none
   | .string,x,y=>match x.str?,y.str? with
     |some l,some m=>(cA fs xs ys (i+1) tys).map fun r=>jU l m&&r
     |_,_=>none
   |_,_,_=>none
 |_::_,_,_,_,_=>none
def fc(P:Program):List Field→List SV→List SV→Nat→Option Bool
 | [],_,_,_=>some true
 |f::fs,xs,ys,i=>
  bif !(Nat.beq f.offset i)||(f.name== "_")then none else
  match ty P f.type with
  |none=>none
  |some s=>match s.und with
   | .struct gs=>bif Nat.ble s.size xs.length&&Nat.ble s.size ys.length then(match cA gs.toList (xs.take s.size) (ys.take s.size) 0 (ty P)with
     |some r0=>(fc P fs (xs.drop s.size) (ys.drop s.size) (i+s.size)).map fun r=>r0&&r
     |none=>none)else none
   |_=>match xs,ys with
    |x::xs',y::ys'=>match cA [f] [x] [y] i (ty P)with
     |some r0=>(fc P fs xs' ys' (i+1)).map fun r=>r0&&r
     |none=>none
    |_,_=>none
def yv(P:Program)(fs:List Field)(xs ys:List SV):Option Bool:=match cA fs xs ys 0 (ty P)with
 |some r=>some r
 |none=>fc P fs xs ys 0
def tJ(P:Program):List Field→Bool
 | []=>true
 |f::fs=>(match ty P f.type with
  |some s=>match s.und with
   | .struct _=> !P.stoodInHeld f.type
   |_=>true
  |none=>true)&&tJ P fs
def kX(P:Program)(t:TypeId)(fs:List Field):Bool:=(!P.eqGuardType P.depth t&& !P.stoodInHeld t)&&tJ P fs
def vN:TypeDesc→Bool| .pointer _=>true|_=>false
def vM:TypeDesc→Bool| .slice _=>true|_=>false
def o5:TypeDesc→Bool| .map _ _=>true|_=>false
def isFn:TypeDesc→Bool| .func _ _ _=>true|_=>false
def jN:TypeDesc→Bool| .interface _=>true|_=>false
def isBl:TypeDesc→Bool| .bool=>true|_=>false
def SV.aggs? :SV→Option (List SV)
 | .agg cs=>some cs
 | .v (.agg cs)=>some (cs.toList.map .v)
 |_=>none
theorem SV.ep{ρ:Nat→Loc}{x:SV}{cs:List SV}(h:x.aggs? =some cs):x.den ρ= .agg (cs.map (SV.den ρ)).toArray:=by
 unfold SV.aggs? at h
 split at h
 ·injection h with h;subst h;simp [SV.den,cS]
 ·injection h with h;subst h;simp [SV.den,Function.comp_def]
 ·cases h
theorem SV.wQ{ρ:Nat→Loc}{n:Nat}{x:SV}{cs:List SV}(h:x.aggs? =some cs)(hx:x.lt ρ n):∀y∈cs,y.lt ρ n:=by
 unfold SV.aggs? at h
 split at h
 ·injection h with h;subst h;exact dj.1 hx
 ·injection h with h;subst h;intro y hy;obtain⟨z,_,rfl⟩:=List.mem_map.1 hy;trivial
 ·cases h
def cmpT(P:Program)(t:TypeId):Bool:=match P.info? t with
 |some i=>i.comparable
 |none=>false
theorem BU{P:Program}{t:TypeId}(h:cmpT P t=true):∃i,P.info? t=some i∧i.comparable=true:=by
 unfold cmpT at h
 split at h
 ·rename_i i hi;exact⟨i,hi,h⟩
 ·cases h
def eqI(P:Program)(u u':TypeId)(a b:SV):Option Bool:=bif Nat.beq u u' then(match ty P u with
  |some su=>match su.und,a.int?,b.int? with
   | .int _,some (ka,m),some (kb,n)=>bif cmpT P u&&kEq ka kb then some (decide (m=n))else none
   |_,_,_=>none
  |none=>none)
 else some false
def eqP(P:Program)(d:TypeDesc)(b o b' o':Nat):Option Bool:=match d with
 | .pointer e=>bif (P.info? e).isSome&&Nat.beq b b'&&Nat.beq o o' then some true else none
 |_=>none
def eqB(P:Program)(t:TypeId)(yc:Bool)(x y:SV):Option Bool:=
 match ty P t with
 |none=>none
 |some s=>
  match x,y with
  | .v (.bool a),.v (.bool b)=>bif isBl s.und then some (a==b)else none
  | .ptr _ _,.v (.pointer none)=>bif vN s.und then some false else none
  | .v (.pointer none),.ptr _ _=>bif vN s.und then some false else none
  | .v (.pointer a),.v (.pointer none)=>bif vN s.und then some a.isNone else none
  | .slc _ _ _ _,.v (.slice none _ _)=>bif vM s.und then some false else none
  | .v (.slice a _ _),.v (.slice none _ _)=>bif vM s.und then some a.isNone else none
  | .mp _,.v (.map none)=>bif o5 s.und then some false else none
  | .v (.map a),.v (.map none)=>bif o5 s.und then some a.isNone else none
  | .fn _ _,.v .nilFunc=>bif isFn s.und then some false else none
  | .v .nilFunc,.v .nilFunc=>bif isFn s.und then some true else none
  | .ifc _ _,.v .nilIface=>bif jN s.und then some false else none
  | .v .nilIface,.v .nilIface=>bif jN s.und&&yc then some true else none
  | .ifc u a,.ifc u' b=>bif jN s.und then eqI P u u' a b else none
  | .ptr b o,.ptr b' o'=>eqP P s.und b o b' o'
  |x,y=>
   match s.und,x.aggs?,y.aggs? with
   | .struct fs,some xs,some ys=>bif kX P t fs.toList then yv P fs.toList xs ys else none
   |_,_,_=>none
theorem iX{P:Program}{t:TypeId}{s:STy}(h:ty P t=some s)(hd:TypeDesc.isAgg s.und=false){cs:Array Value}{i:Nat}{v:Value}(hv:cs[i]? =some v)(w:World):(part t cs i).run P w= .ok v w:=by
 simp only [part,Sem.run_bind,mB w h,Result.andThen_ok,hd,Bool.false_eq_true,if_false,hv,Sem.run_pure]
theorem qo{P:Program}{t:TypeId}{s:STy}(h:ty P t=some s)(hd:TypeDesc.isAgg s.und=true)(cs:Array Value)(i:Nat)(w:World):(part t cs i).run P w= .ok (.agg (cs.extract i (i+s.size))) w:=by
 simp only [part,Sem.run_bind,mB w h,Result.andThen_ok,hd,if_true,bp w h,Sem.run_pure]
theorem kF{P:Program}{ρ:Nat→Loc}(d:Nat)(w:World):∀(fs:List Field) (xs ys px py:List SV) (r:Bool),
  cA fs xs ys px.length (ty P)=some r→px.length=py.length→
  (Op.eqFields (d+1) ((px++xs).map (SV.den ρ)).toArray ((py++ys).map (SV.den ρ)).toArray fs).run P w= .ok r w:=by
 intro fs
 induction fs with
 |nil=>intro xs ys px py r h _;simp only [cA]at h;injection h with h;subst h;rfl
 |cons f fs ih=>
  intro xs ys px py r h hp
  cases xs with
  |nil=>simp [cA]at h
  |cons x xs=>
   cases ys with
   |nil=>simp [cA]at h
   |cons y ys=>
    simp only [cA]at h
    cases hb:(!(Nat.beq f.offset px.length)||(f.name== "_"))with
    |true=>rw [hb]at h;simp at h
    |false=>
     rw [hb]at h;simp only [cond_false]at h
     have hoff:f.offset=px.length:=by
      cases ho:Nat.beq f.offset px.length with
      |true=>exact Nat.eq_of_beq_eq_true ho
      |false=>rw [ho]at hb;simp at hb
     have hname:f.name≠ "_" :=by
      intro e;rw [e]at hb;simp at hb
     split at h
     ·cases h
     ·rename_i s hs
      have hx:(((px++x::xs).map (SV.den ρ)).toArray)[f.offset]? =some (x.den ρ):=by simp [hoff]
      have hy:(((py++y::ys).map (SV.den ρ)).toArray)[f.offset]? =some (y.den ρ):=by simp [hoff,hp]
      have next:∀r',cA fs xs ys (px.length+1) (ty P)=some r'→
        (Op.eqFields (d+1) ((px++x::xs).map (SV.den ρ)).toArray ((py++y::ys).map (SV.den ρ)).toArray fs).run P w= .ok r' w:=fun r' h'=>by
       have:=ih xs ys (px++ [x]) (py++ [y]) r' (by simpa using h') (by simp [hp]);simpa [List.append_assoc]using this
      have fin:∀(e:Bool) (r':Bool),TypeDesc.isAgg s.und=false→(Op.equalIn (d+1) f.type (x.den ρ) (y.den ρ)).run P w= .ok e w→
        cA fs xs ys (px.length+1) (ty P)=some r'→r=(e&&r')→
        (Op.eqFields (d+1) ((px++x::xs).map (SV.den ρ)).toArray ((py++y::ys).map (SV.den ρ)).toArray (f::fs)).run P w= .ok r w:=fun e r' ha he h' hr=>by
       subst hr;simp only [Op.eqFields,ne_eq,hname,not_false_eq_true,if_true,Sem.run_bind,iX hs ha hx,iX hs ha hy,Result.andThen_ok,he]
       cases e
       ·simp
       ·simp only [Bool.not_true,Bool.false_eq_true,if_false,Bool.true_and];exact next r' h'
      have hu:=(bK hs).und
      split at h
      ·rename_i a b hd
       cases hr:cA fs xs ys (px.length+1) (ty P)with
       |none=>rw [hr]at h;cases h
       |some r'=>
        rw [hr]at h;injection h with h
        exact fin (a==b) r' (by rw [hd];rfl) (run_equalIn_bool' w d f.type a b (by rw [hu,hd])) hr h.symm
      ·rename_i k0 k a k' b hd
       cases hk:kEq k k' with
       |false=>rw [hk]at h;cases h
       |true=>
        rw [hk]at h;have hk:=ix.1 hk;subst hk
        cases hr:cA fs xs ys (px.length+1) (ty P)with
        |none=>rw [hr]at h;cases h
        |some r'=>
         rw [hr]at h;injection h with h
         refine fin (decide (a=b)) r' (by rw [hd];rfl) ?_ hr h.symm;have:=run_equalIn_int w d f.type k k0 a b (by rw [hu,hd]);rw [show(a==b)=decide (a=b)from rfl]at this;exact this
      ·rename_i hd
       split at h
       ·rename_i l m hl hm
        cases hr:cA fs xs ys (px.length+1) (ty P)with
        |none=>rw [hr]at h;cases h
        |some r'=>
         rw [hr]at h;injection h with h
         refine fin (jU l m) r' (by rw [hd];rfl) ?_ hr h.symm;rw [SV.bF hl,SV.bF hm];have:=run_equalIn_string w d f.type ⟨l.toArray⟩ ⟨m.toArray⟩ (by rw [hu,hd]);rw [this,ByteArray.toList_eq,ByteArray.toList_eq,iB]
       ·cases h
      ·cases h
theorem wc{P:Program}{f:Field}{x y:SV}{i:Nat}{r0:Bool}(h:cA [f] [x] [y] i (ty P)=some r0):∃s,ty P f.type=some s∧TypeDesc.isAgg s.und=false∧∀(d:Nat) (ρ:Nat→Loc) (w:World),(Op.equalIn (d+1) f.type (x.den ρ) (y.den ρ)).run P w= .ok r0 w:=by
 simp only [cA]at h
 cases hb:(!(Nat.beq f.offset i)||(f.name== "_"))with
 |true=>rw [hb]at h;simp at h
 |false=>
  rw [hb]at h;simp only [cond_false]at h
  split at h
  ·cases h
  ·rename_i s hs
   have hu:=(bK hs).und;refine⟨s,hs,?_⟩
   split at h
   ·rename_i a b hd
    injection h with h
    refine⟨by rw [hd];rfl,fun d ρ w=> ?_⟩;have h:=(Bool.and_true _).symm.trans h;rw [←h];exact run_equalIn_bool' w d f.type a b (by rw [hu,hd])
   ·rename_i k0 k a k' b hd
    cases hk:kEq k k' with
    |false=>rw [hk]at h;cases h
    |true=>
     rw [hk]at h;have hk:=ix.1 hk;subst hk;injection h with h
     refine⟨by rw [hd];rfl,fun d ρ w=> ?_⟩;have h:=(Bool.and_true _).symm.trans h;rw [←h];have:=run_equalIn_int w d f.type k k0 a b (by rw [hu,hd]);rw [show(a==b)=decide (a=b)from rfl]at this;exact this
   ·rename_i hd
    split at h
    ·rename_i l m hl hm
     injection h with h
     refine⟨by rw [hd];rfl,fun d ρ w=> ?_⟩;have h:=(Bool.and_true _).symm.trans h;rw [←h,SV.bF hl,SV.bF hm];have:=run_equalIn_string w d f.type ⟨l.toArray⟩ ⟨m.toArray⟩ (by rw [hu,hd]);rw [this,ByteArray.toList_eq,ByteArray.toList_eq,iB]
    ·cases h
   ·cases h
theorem lG{ρ:Nat→Loc}(px xs:List SV)(n:Nat):((px++xs).map (SV.den ρ)).toArray.extract px.length (px.length+n)=((xs.take n).map (SV.den ρ)).toArray:=by
 apply Array.toList_inj.1;simp only [List.map_append,Array.toList_extract,List.extract_eq_take_drop,List.map_take];rw [Nat.add_sub_cancel_left,List.drop_left' (by simp)]
theorem uc{P:Program}{ρ:Nat→Loc}(d:Nat)(w:World):∀(fs:List Field) (xs ys px py:List SV) (r:Bool),
  fc P fs xs ys px.length=some r→px.length=py.length→tJ P fs=true→
  (Op.eqFields (d+2) ((px++xs).map (SV.den ρ)).toArray ((py++ys).map (SV.den ρ)).toArray fs).run P w= .ok r w:=by
 intro fs
 induction fs with
 |nil=>intro xs ys px py r h _ _;simp only [fc]at h;injection h with h;subst h;rfl
 |cons f fs ih=>
  intro xs ys px py r h hp hn;simp only [tJ,Bool.and_eq_true]at hn;obtain⟨hn1,hn2⟩:=hn;simp only [fc]at h
  cases hb:(!(Nat.beq f.offset px.length)||(f.name== "_"))with
  |true=>rw [hb]at h;simp at h
  |false=>
   rw [hb]at h;simp only [cond_false]at h
   have hoff:f.offset=px.length:=by
    cases ho:Nat.beq f.offset px.length with
    |true=>exact Nat.eq_of_beq_eq_true ho
    |false=>rw [ho]at hb;simp at hb
   have hname:f.name≠ "_" :=by
    intro e;rw [e]at hb;simp at hb
   have fin:∀(X Y:Value) (r0 r':Bool) (n:Nat) (xs0 ys0 xs1 ys1:List SV),xs=xs0++xs1→ys=ys0++ys1→xs0.length=n→ys0.length=n→(part f.type ((px++xs).map (SV.den ρ)).toArray f.offset).run P w= .ok X w→(part f.type ((py++ys).map (SV.den ρ)).toArray f.offset).run P w= .ok Y w→(Op.equalIn (d+2) f.type X Y).run P w= .ok r0 w→
     fc P fs xs1 ys1 (px.length+n)=some r'→r=(r0&&r')→(Op.eqFields (d+2) ((px++xs).map (SV.den ρ)).toArray ((py++ys).map (SV.den ρ)).toArray (f::fs)).run P w= .ok r w:=fun X Y r0 r' n xs0 ys0 xs1 ys1 hx0 hy0 hlx hly hX hY he h' hr=>by
    subst hr;simp only [Op.eqFields,ne_eq,hname,not_false_eq_true,if_true,Sem.run_bind,hX,hY,Result.andThen_ok,he]
    cases r0
    ·simp
    ·simp only [Bool.not_true,Bool.false_eq_true,if_false,Bool.true_and]
     have:=ih xs1 ys1 (px++xs0) (py++ys0) r' (by rw [List.length_append,hlx];exact h') (by rw [List.length_append,List.length_append,hlx,hly,hp]) hn2;rw [hx0,hy0];rw [List.append_assoc,List.append_assoc]at this;exact this
   split at h
   ·cases h
   ·rename_i s hs
    have hu:=(bK hs).und;rw [hs]at hn1
    split at h
    ·rename_i gs hd
     cases hc:(Nat.ble s.size xs.length&&Nat.ble s.size ys.length)with
     |false=>rw [hc]at h;cases h
     |true=>
      rw [hc]at h;simp only [Bool.and_eq_true]at hc;have l1:=Nat.le_of_ble_eq_true hc.1;have l2:=Nat.le_of_ble_eq_true hc.2;simp only [cond_true]at h
      split at h
      ·rename_i r0 h0
       have hst:P.stoodInHeld f.type=false:=by simpa [hd]using hn1
       have ha:TypeDesc.isAgg s.und=true:=by rw [hd];rfl
       rw [hd]at hu;have hf:P.fieldsOf f.type=gs:=by simp [Program.fieldsOf,hu]
       have he:(Op.equalIn (d+2) f.type (.agg ((xs.take s.size).map (SV.den ρ)).toArray) (.agg ((ys.take s.size).map (SV.den ρ)).toArray)).run P w= .ok r0 w:=by
        have h1:=run_equalIn_struct (P:=P) w (d+1) f.type ((xs.take s.size).map (SV.den ρ)).toArray ((ys.take s.size).map (SV.den ρ)).toArray (by rw [hf];exact hu) hst;rw [hf]at h1;rw [h1];exact kF d w gs.toList (xs.take s.size) (ys.take s.size) [] [] r0 h0 rfl
       cases hr:fc P fs (xs.drop s.size) (ys.drop s.size) (px.length+s.size)with
       |none=>rw [hr]at h;cases h
       |some r'=>
        rw [hr]at h;injection h with h
        refine fin _ _ r0 r' s.size (xs.take s.size) (ys.take s.size) (xs.drop s.size) (ys.drop s.size) (List.take_append_drop _ _).symm (List.take_append_drop _ _).symm (by rw [List.length_take];omega) (by rw [List.length_take];omega) ?_ ?_ he hr h.symm
        ·rw [qo hs ha,hoff,lG]
        ·rw [qo hs ha,hoff,hp,lG]
      ·cases h
    ·cases xs with
     |nil=>cases h
     |cons x xs'=>
     cases ys with
     |nil=>cases h
     |cons y ys'=>
      simp only at h
      split at h
      ·rename_i r0 h0
       obtain⟨s',hs',ha,he⟩:=wc h0;rw [hs]at hs';injection hs' with hs'
       subst hs';have hx:(((px++x::xs').map (SV.den ρ)).toArray)[f.offset]? =some (x.den ρ):=by simp [hoff]
       have hy:(((py++y::ys').map (SV.den ρ)).toArray)[f.offset]? =some (y.den ρ):=by simp [hoff,hp]
       cases hr:fc P fs xs' ys' (px.length+1)with
       |none=>rw [hr]at h;cases h
       |some r'=>
        rw [hr]at h;injection h with h
        exact fin _ _ r0 r' 1 [x] [y] xs' ys' rfl rfl rfl rfl (iX hs ha hx w) (iX hs ha hy w) (he (d+1) ρ w) hr h.symm
      ·cases h
theorem nO{P:Program}{t:TypeId}(w:World){X Y:Value}(h1:∀a b,¬(X= .agg a∧Y= .agg b))(h2:¬(X= .nilIface∧Y= .nilIface))(op:BinOp)(xo yo:Operand):
  (eqGuard op t xo yo X Y).run P w= .ok () w:=by
 unfold eqGuard
 cases op<;>first
  |rfl
  |(cases X<;>first
     |rfl
     |(cases Y<;>first|rfl|exact absurd ⟨rfl,rfl⟩ h2|exact absurd ⟨rfl,rfl⟩ (h1 _ _)))
theorem Eh{P:Program}{t:TypeId}{yc:Bool}{x y:SV}{r:Bool}(h:eqB P t yc x y=some r)(ρ:Nat→Loc)(w:World)(d:Nat):
  (Op.equalIn (d+3) t (x.den ρ) (y.den ρ)).run P w= .ok r w:=by
 unfold eqB at h
 split at h
 ·cases h
 ·rename_i s hs
  have hu:=(bK hs).und
  split at h
  case h_1=>
   cases hd:s.und<;>rw [hd]at h<;>simp [isBl]at h
   subst h;rw [hd]at hu;exact run_equalIn_bool' w _ t _ _ hu
  case h_15=>
   split at h
   ·rename_i fs xs ys hd hx hy
    cases hp:kX P t fs.toList with
    |false=>rw [hp]at h;cases h
    |true=>
     rw [hp]at h;simp only [cond_true]at h;simp only [kX,Bool.and_eq_true,Bool.not_eq_true']at hp;rw [hd]at hu;have hf:P.fieldsOf t=fs:=by simp [Program.fieldsOf,hu]
     rw [SV.ep hx,SV.ep hy];have:=run_equalIn_struct (P:=P) w (d+2) t (xs.map (SV.den ρ)).toArray (ys.map (SV.den ρ)).toArray (by rw [hf];exact hu) hp.1.2;rw [hf]at this;rw [this];unfold yv at h
     split at h
     ·rename_i r1 h1
      injection h with h
      subst h;exact kF (d+1) w fs.toList xs ys [] [] r1 h1 rfl
     ·exact uc d w fs.toList xs ys [] [] r h rfl hp.2
   ·cases h
  case h_14=>
   rename_i b o b' o';unfold eqP at h
   split at h
   ·rename_i e hd
    rw [hd]at hu
    cases hc:(P.info? e).isSome&&Nat.beq b b'&&Nat.beq o o' with
    |false=>rw [hc]at h;cases h
    |true=>
     rw [hc]at h;simp only [cond_true,Option.some.injEq]at h;subst h;simp only [Bool.and_eq_true]at hc;obtain⟨j,hj⟩:=Option.isSome_iff_exists.1 hc.1.1;have h1:=Nat.eq_of_beq_eq_true hc.1.2;have h2:=Nat.eq_of_beq_eq_true hc.2;subst h1;subst h2
     show(Op.equalIn ((d+2)+1) t _ _).run P w=_
     simp [Op.equalIn,run_underlying hu,SV.den,sizeOf,typeInfo,hj,run_sameAddr_same]
   ·cases h
  case h_13=>
   rename_i u a u' b
   cases hd:s.und<;>rw [hd]at h<;>simp only [jN,cond_true,cond_false]at h<;>first|(cases h;done)|skip
   rw [hd]at hu;unfold eqI at h;show(Op.equalIn ((d+2)+1) t _ _).run P w=_
   cases hb:Nat.beq u u' with
   |false=>
    rw [hb]at h;have hne:u≠u':=fun e=>by rw [e,Nat.beq_refl]at hb;cases hb
    simp only [cond_false,Option.some.injEq]at h;subst h;generalize d+2=e;simp [Op.equalIn,run_underlying hu,SV.den,hne]
   |true=>
    rw [hb]at h;have:=Nat.eq_of_beq_eq_true hb;subst this;simp only [cond_true]at h
    split at h
    ·rename_i su hsu
     split at h
     ·rename_i k ka m kb n hdu ha hb'
      cases hc:cmpT P u&&kEq ka kb with
      |false=>rw [hc]at h;cases h
      |true=>
       rw [hc]at h;simp only [cond_true,Option.some.injEq]at h;subst h;simp only [Bool.and_eq_true]at hc;obtain⟨i,hinfo,hcomp⟩:=BU hc.1;have hk:=ix.1 hc.2;subst hk;have hu2:=(bK hsu).und;rw [hdu]at hu2;have key:=run_equalIn_int (P:=P) w (d+1) u ka k m n hu2;change (Op.equalIn (d+2) u _ _).run P w=_ at key;rw [show(m==n)=decide (m=n)from rfl]at key;rw [SV.den,SV.den,SV.bm ha,SV.bm hb'];revert key;generalize d+2=e;intro key;simp [Op.equalIn,run_underlying hu,typeInfo,hinfo,hcomp,key]
     ·cases h
    ·cases h
  case h_4=>rename_i a;cases a<;>(cases hd:s.und<;>rw [hd]at h<;>simp [vN]at h;rw [hd]at hu;subst h;show(Op.equalIn ((d+2)+1) t _ _).run P w=_;generalize d+2=e;simp only [Op.equalIn,Sem.run_bind,run_underlying hu,Result.andThen_ok,SV.den,Sem.run_pure];try rfl)
  case h_6=>rename_i a _ _ _ _;cases a<;>(cases hd:s.und<;>rw [hd]at h<;>simp [vM]at h;rw [hd]at hu;subst h;show(Op.equalIn ((d+2)+1) t _ _).run P w=_;generalize d+2=e;simp only [Op.equalIn,Sem.run_bind,run_underlying hu,Result.andThen_ok,SV.den,Sem.run_pure];try rfl)
  case h_8=>rename_i a;cases a<;>(cases hd:s.und<;>rw [hd]at h<;>simp [o5]at h;rw [hd]at hu;subst h;show(Op.equalIn ((d+2)+1) t _ _).run P w=_;generalize d+2=e;simp only [Op.equalIn,Sem.run_bind,run_underlying hu,Result.andThen_ok,SV.den,Sem.run_pure];try rfl)
  all_goals
   (cases hd:s.und<;>rw [hd]at h<;>simp [vN,vM,o5,isFn,jN]at h)
  all_goals
   rw [hd]at hu;show(Op.equalIn ((d+2)+1) t _ _).run P w=_
   generalize d+2=e;simp only [Op.equalIn,Sem.run_bind,run_underlying hu,Result.andThen_ok,SV.den,Sem.run_pure]
  all_goals first
   |(subst h;rfl)
   |(cases yc with
     |true=>simp at h;subst h;rfl
     |false=>simp at h)
theorem zN{P:Program}{t:TypeId}{yc:Bool}{x y:SV}{r:Bool}(h:eqB P t yc x y=some r)(ρ:Nat→Loc)(w:World):
  (Op.equal t (x.den ρ) (y.den ρ)).run P w= .ok r w∧
  ∀(op:BinOp) (xo yo:Operand),(yc=true→∃c,yo= .const c)→(eqGuard op t xo yo (x.den ρ) (y.den ρ)).run P w= .ok () w:=by
 refine⟨Eh h ρ w 9997,?_⟩;unfold eqB at h
 split at h
 ·cases h
 ·rename_i s hs
  have hu:=(bK hs).und
  split at h
  case h_12=>
   cases hd:s.und<;>rw [hd]at h<;>simp [jN]at h
   intro op xo yo hc;obtain⟨c,rfl⟩:=hc (by cases yc with|true=>rfl|false=>cases h)
   cases op<;>simp [eqGuard,SV.den]
  case h_15=>
   split at h
   ·rename_i fs xs ys hd hx hy
    cases hp:kX P t fs.toList with
    |false=>rw [hp]at h;cases h
    |true=>
     simp only [kX,Bool.and_eq_true,Bool.not_eq_true']at hp;rw [SV.ep hx,SV.ep hy];exact fun op xo yo _=>run_eqGuard_agg w op t xo yo _ _ hp.1.1
   ·cases h
  all_goals exact fun op xo yo _=>nO w (by simp [SV.den]) (by simp [SV.den]) op xo yo
def eqN(P:Program)(t:TypeId)(yc:Bool)(x y:SV):Option Bool:=
 match ty P t with
 |none=>none
 |some s=>
  match s.und with
  | .struct fs=>match x.aggs?,y.aggs? with
    |some xs,some ys=>yv P fs.toList xs ys
    |_,_=>none
  |_=>eqB P t yc x y
def ze(P:Program)(t:TypeId):Bool:=match ty P t with
 |none=>true
 |some s=>match s.und with
  | .struct fs=>kX P t fs.toList
  |_=>true
theorem zM{P:Program}{t:TypeId}{yc:Bool}{x y:SV}{e:Bool}(h:eqN P t yc x y=some e)(hs:ze P t=true):eqB P t yc x y=some e:=by
 unfold eqN at h;unfold ze at hs
 split at h
 ·cases h
 ·rename_i s hty
  rw [hty]at hs;simp only at hs
  split at h
  ·rename_i fs hd
   rw [hd]at hs;simp only at hs
   split at h
   ·rename_i xs ys hx hy
    unfold eqB;rw [hty];have hx':=hx;have hy':=hy;unfold SV.aggs? at hx hy
    split at hx
    ·split at hy
     ·simp only [hd,SV.aggs?]at hx' hy' ⊢
      injection hx' with hx';injection hy' with hy';subst hx';subst hy'
      rw [hs];exact h
     ·simp only [hd,SV.aggs?]at hx' hy' ⊢
      injection hx' with hx';injection hy' with hy';subst hx';subst hy'
      rw [hs];exact h
     ·cases hy
    ·split at hy
     ·simp only [hd,SV.aggs?]at hx' hy' ⊢
      injection hx' with hx';injection hy' with hy';subst hx';subst hy'
      rw [hs];exact h
     ·simp only [hd,SV.aggs?]at hx' hy' ⊢
      injection hx' with hx';injection hy' with hy';subst hx';subst hy'
      rw [hs];exact h
     ·cases hy
    ·cases hx
   ·cases h
  ·exact h
def isCst:Operand→Bool
 | .const _=>true
 |_=>false
def Cc(P:Program)(op:BinOp)(t:TypeId)(yc:Bool)(x y:SV):Option (Bool×SV):=
 match x.int?,y.int? with
 |some (k,a),some (k',b)=>qJ op k k' a b
 |_,_=>match x.str?,y.str? with
  |some l,some m=>pR op l m
  |_,_=>match op with
   | .eql=>match eqN P t yc x y with
     |some e=>some (ze P t,.v (.bool e))
     |none=>none
   | .neq=>match eqN P t yc x y with
     |some e=>some (ze P t,.v (.bool (!e)))
     |none=>none
   |_=>none
theorem binV_lt{P:Program}{op:BinOp}{t:TypeId}{yc:Bool}{x y z:SV}{r:Bool}(h:Cc P op t yc x y=some (r,z))(ρ:Nat→Loc)(n:Nat):z.lt ρ n:=by
 unfold Cc at h
 split at h
 ·exact Bq h ρ n
 ·split at h
  ·exact Aj h ρ n
  ·split at h
   ·split at h
    ·injection h with h;injection h with _ h;subst h;trivial
    ·cases h
   ·split at h
    ·injection h with h;injection h with _ h;subst h;trivial
    ·cases h
   ·cases h
theorem binOp_eql{P:Program}{t:TypeId}{X Y:Value}{w:World}{e:Bool}(h:(Op.equal t X Y).run P w= .ok e w)(h1:∀k a k' b,¬(X= .int k a∧Y= .int k' b))(h2:∀a b,¬(X= .string a∧Y= .string b))
  (h3:∀k a k' b,¬(X= .float k a∧Y= .float k' b)) (h4:∀k a b k' c d,¬(X= .complex k a b∧Y= .complex k' c d)):(binOp .eql t X Y).run P w= .ok (.bool e) w:=by
 have:binOp .eql t X Y=(do pure (.bool (←Op.equal t X Y)):Sem Value):=by
  unfold binOp
  cases X<;>first
   |rfl
   |(cases Y<;>first|rfl|exact absurd ⟨rfl,rfl⟩ (h1 _ _ _ _)|exact absurd ⟨rfl,rfl⟩ (h2 _ _)|exact absurd ⟨rfl,rfl⟩ (h3 _ _ _ _)|exact absurd ⟨rfl,rfl⟩ (h4 _ _ _ _ _ _))
 rw [this];simp only [Sem.run_bind,h,Result.andThen_ok,Sem.run_pure]
theorem binOp_neq{P:Program}{t:TypeId}{X Y:Value}{w:World}{e:Bool}(h:(Op.equal t X Y).run P w= .ok e w)(h1:∀k a k' b,¬(X= .int k a∧Y= .int k' b))(h2:∀a b,¬(X= .string a∧Y= .string b))
  (h3:∀k a k' b,¬(X= .float k a∧Y= .float k' b)) (h4:∀k a b k' c d,¬(X= .complex k a b∧Y= .complex k' c d)):(binOp .neq t X Y).run P w= .ok (.bool (!e)) w:=by
 have:binOp .neq t X Y=(do pure (.bool (!(←Op.equal t X Y))):Sem Value):=by
  unfold binOp
  cases X<;>first
   |rfl
   |(cases Y<;>first|rfl|exact absurd ⟨rfl,rfl⟩ (h1 _ _ _ _)|exact absurd ⟨rfl,rfl⟩ (h2 _ _)|exact absurd ⟨rfl,rfl⟩ (h3 _ _ _ _)|exact absurd ⟨rfl,rfl⟩ (h4 _ _ _ _ _ _))
 rw [this];simp only [Sem.run_bind,h,Result.andThen_ok,Sem.run_pure]
theorem sL{P:Program}{t:TypeId}{yc:Bool}{x y:SV}{e:Bool}(h:eqB P t yc x y=some e)(ρ:Nat→Loc):
  (∀k a k' b,¬(x.den ρ= .int k a∧y.den ρ= .int k' b))∧(∀a b,¬(x.den ρ= .string a∧y.den ρ= .string b))∧
  (∀k a k' b,¬(x.den ρ= .float k a∧y.den ρ= .float k' b))∧(∀k a b k' c d,¬(x.den ρ= .complex k a b∧y.den ρ= .complex k' c d)):=by
 unfold eqB at h
 split at h
 ·cases h
 ·split at h
  case h_15=>
   split at h
   ·rename_i fs xs ys hd hx hy
    rw [SV.ep hx,SV.ep hy];simp
   ·cases h
  all_goals simp [SV.den]
theorem EM{P:Program}{op:BinOp}{t:TypeId}{yc:Bool}{x y z:SV}{r:Bool}(h:Cc P op t yc x y=some (r,z))(hr:r=true)(ρ:Nat→Loc)(w:World)(xo yo:Operand)(hc:yc=true→∃c,yo= .const c):
  (do eqGuard op t xo yo (x.den ρ) (y.den ρ);binOp op t (x.den ρ) (y.den ρ):Sem Value).run P w= .ok (z.den ρ) w:=by
 unfold Cc at h
 split at h
 ·rename_i k a k' b h1 h2
  rw [SV.bm h1,SV.bm h2];simp only [Sem.run_bind,nO w (X:= .int k a) (Y:= .int k' b) (by simp) (by simp),Result.andThen_ok];exact yj h hr t ρ w
 ·split at h
  ·rename_i l m h1 h2
   rw [SV.bF h1,SV.bF h2];simp only [Sem.run_bind,nO w (X:= .string ⟨l.toArray⟩) (Y:= .string ⟨m.toArray⟩) (by simp) (by simp),Result.andThen_ok];exact xg h hr t ρ w
  ·split at h
   ·split at h
    ·rename_i e he
     injection h with h;injection h with hside h;subst h
     have he:=zM he (hside.trans hr);obtain⟨h1,h2⟩:=zN he ρ w;obtain⟨k1,k2,k3,k4⟩:=sL he ρ;simp only [Sem.run_bind,h2 .eql xo yo hc,Result.andThen_ok];exact binOp_eql h1 k1 k2 k3 k4
    ·cases h
   ·split at h
    ·rename_i e he
     injection h with h;injection h with hside h;subst h
     have he:=zM he (hside.trans hr);obtain⟨h1,h2⟩:=zN he ρ w;obtain⟨k1,k2,k3,k4⟩:=sL he ρ;simp only [Sem.run_bind,h2 .neq xo yo hc,Result.andThen_ok];exact binOp_neq h1 k1 k2 k3 k4
    ·cases h
   ·cases h
def unV(op:UnOp)(x:SV):Option SV:=
 match op,x with
 | .not,.v (.bool b)=>some (.v (.bool (!b)))
 | .neg,.v (.int k n)=>some (.v (.int k (k.wrap (0-n))))
 | .xor,.v (.int k n)=>some (.v (.int k (bitsOf .xor k (if k.signed then-1 else k.max) n)))
 |_,_=>none
theorem unV_run{P:Program}{op:UnOp}{x z:SV}(h:unV op x=some z)(ρ:Nat→Loc)(w:World):(Op.unary op (x.den ρ)).run P w= .ok (z.den ρ) w:=by
 unfold unV at h
 split at h<;>first|(cases h;done)|(injection h with h;subst h)
 ·rfl
 ·rfl
 ·rfl
theorem unV_lt{op:UnOp}{x z:SV}(h:unV op x=some z)(ρ:Nat→Loc)(n:Nat):z.lt ρ n:=by
 unfold unV at h
 split at h<;>first|(cases h;done)|(injection h with h;subst h;trivial)
def sO(P:Program)(src dst:TypeId)(x:SV):Option SV:=
 match ty P src,ty P dst with
 |some s,some d=>
  match d.und,x.int? with
  | .int k,some (_,n)=>some (.v (.int k (k.wrap n)))
  | .string,none=>match s.und,x.str? with
    | .string,some _=>some x
    |_,_=>none
  |_,_=>none
 |_,_=>none
theorem BQ{P:Program}{src dst:TypeId}{x z:SV}(h:sO P src dst x=some z)(ρ:Nat→Loc)(w:World):(convert src dst (x.den ρ)).run P w= .ok (z.den ρ) w:=by
 unfold sO at h
 split at h
 ·rename_i s d hs hd
  split at h
  ·rename_i k n0 n hk hx
   injection h with h;subst h
   rw [SV.bm hx];simp only [convert,Sem.run_bind,aq w hs,aq w hd,Result.andThen_ok,hk];rfl
  ·rename_i hk hx
   split at h
   ·rename_i l hsu hl
    injection h with h;subst h
    rw [SV.bF hl];simp only [convert,Sem.run_bind,aq w hs,aq w hd,Result.andThen_ok,hk,hsu];rfl
   ·cases h
  ·cases h
 ·cases h
theorem Ev{P:Program}{src dst:TypeId}{x z:SV}(h:sO P src dst x=some z){ρ:Nat→Loc}{n:Nat}(hx:x.lt ρ n):z.lt ρ n:=by
 unfold sO at h
 split at h
 ·split at h
  ·injection h with h;subst h;trivial
  ·split at h
   ·injection h with h;subst h;exact hx
   ·cases h
  ·cases h
 ·cases h
def nilV(x:SV):Option (Bool×SV):=
 match x with
 | .ptr b o=>some (true,.ptr b o)
 | .v (.pointer o)=>some (o.isSome,.v (.pointer o))
 | .fn f cs=>some (true,.fn f cs)
 | .ifc t y=>some (true,.ifc t y)
 |_=>none
def Bs(P:Program)(t:TypeId)(x:SV):Option SV:=
 match ty P t with
 |some s=>bif jN s.und then none else some (.ifc t x)
 |none=>none
theorem D2{P:Program}{t:TypeId}{x z:SV}(h:Bs P t x=some z)(ρ:Nat→Loc)(w:World):(Instr.makeInterface t (x.den ρ)).run P w= .ok (z.den ρ) w:=by
 unfold Bs at h
 split at h
 ·rename_i s hs
  cases hi:jN s.und with
  |true=>rw [hi]at h;cases h
  |false=>
   rw [hi]at h;injection h with h;subst h
   simp only [Instr.makeInterface,Sem.run_bind,aq w hs,Result.andThen_ok]
   cases hd:s.und<;>rw [hd]at hi<;>first|(cases hi;done)|rfl
 ·cases h
theorem ifcV_lt{P:Program}{t:TypeId}{x z:SV}(h:Bs P t x=some z){ρ:Nat→Loc}{n:Nat}(hx:x.lt ρ n):z.lt ρ n:=by
 unfold Bs at h
 split at h
 ·rename_i s hs
  cases hi:jN s.und with
  |true=>rw [hi]at h;cases h
  |false=>rw [hi]at h;injection h with h;subst h;exact hx
 ·cases h
def lq(P:Program)(t:TypeId)(ok:Bool)(x:SV):Option SV:=
 match ty P t with
 |some s=>bif jN s.und then none else match x with
  | .ifc u y=>bif Nat.beq u t then some (bif ok then .tup [y,.v (.bool true)]else y)else none
  |_=>none
 |none=>none
theorem wJ{P:Program}{xt t:TypeId}{ok:Bool}{x z:SV}(h:lq P t ok x=some z)(ρ:Nat→Loc)(w:World):(Instr.typeAssert (x.den ρ) xt t ok).run P w= .ok (z.den ρ) w:=by
 unfold lq at h
 split at h
 ·rename_i s hs
  cases hi:jN s.und with
  |true=>rw [hi]at h;cases h
  |false=>
   rw [hi]at h;simp only [cond_false]at h
   split at h
   ·rename_i u y
    cases hu:Nat.beq u t with
    |false=>rw [hu]at h;cases h
    |true=>
     rw [hu]at h;have hu:=Nat.eq_of_beq_eq_true hu;subst hu;simp only [cond_true,Option.some.injEq]at h;subst h;simp only [Instr.typeAssert,Sem.run_bind,aq w hs,Result.andThen_ok]
     cases hd:s.und<;>rw [hd]at hi<;>first|(cases hi;done)|(cases ok<;>simp [SV.den,SV.gC])
   ·cases h
 ·cases h
theorem yN{P:Program}{t:TypeId}{ok:Bool}{x z:SV}(h:lq P t ok x=some z){ρ:Nat→Loc}{n:Nat}(hx:x.lt ρ n):z.lt ρ n:=by
 unfold lq at h
 split at h
 ·rename_i s hs
  cases hi:jN s.und with
  |true=>rw [hi]at h;cases h
  |false=>
   rw [hi]at h;simp only [cond_false]at h
   split at h
   ·rename_i u y
    cases hu:Nat.beq u t with
    |false=>rw [hu]at h;cases h
    |true=>
     rw [hu]at h;simp only [cond_true,Option.some.injEq]at h;subst h
     cases ok with
     |true=>exact dj.2 (fun v hv=>by
       rcases List.mem_cons.1 hv with rfl|hv
       ·exact hx
       ·rcases List.mem_singleton.1 hv with rfl;trivial)
     |false=>exact hx
   ·cases h
 ·cases h
theorem cE(b o n:Nat):(⟨b,o,none⟩:Addr).add n=⟨b,o+n,none⟩:=by
 unfold Addr.add;split
 ·subst_vars;rfl
 ·rfl
def structFields(P:Program)(t:TypeId):Option (List Field):=
 match ty P t with
 |some s=>match s.und with
  | .struct fs=>some fs.toList
  |_=>none
 |none=>none
theorem iQ{P:Program}{t:TypeId}{fs:List Field}(h:structFields P t=some fs):P.underlying t=some (.struct fs.toArray):=by
 unfold structFields at h
 split at h
 ·rename_i s hs
  split at h
  ·rename_i fs' hd
   injection h with h;subst h
   rw [(bK hs).und,hd]
  ·cases h
 ·cases h
def fK(P:Program)(t:TypeId)(x:SV)(i:Nat):Option SV:=
 match structFields P t with
 |none=>none
 |some fs=>match fs[i]? with
  |none=>none
  |some f=>match ty P f.type with
   |none=>none
   |some s=>bif Nat.beq s.size 0 then none else
    match x with
    | .ptr b o=>some (.ptr b (o+f.offset))
    | .v (.pointer (some ⟨b,o,none⟩))=>some (.v (.pointer (some ⟨b,o+f.offset,none⟩)))
    |_=>none
theorem qU{P:Program}{t:TypeId}{x z:SV}{i:Nat}(h:fK P t x i=some z)(ρ:Nat→Loc)(w:World):(Instr.fieldAt t (x.den ρ) i).run P w= .ok (z.den ρ) w:=by
 unfold fK at h
 split at h
 ·cases h
 ·rename_i fs hfs
  split at h
  ·cases h
  ·rename_i f hf
   split at h
   ·cases h
   ·rename_i s hs
    cases h0:Nat.beq s.size 0 with
    |true=>rw [h0]at h;cases h
    |false=>
     rw [h0]at h;have hne:s.size≠0:=fun e=>by rw [e]at h0;cases h0
     have hu:=run_underlying (iQ hfs) w
     have hplace:∀a,(fieldPlace a f).run P w= .ok (a.add f.offset) w:=fun a=>by
      simp only [fieldPlace,Sem.run_bind,bp w hs,Result.andThen_ok,hne,if_false,Sem.run_pure]
     have hf':fs.toArray[i]? =some f:=by simpa using hf
     simp only [cond_false]at h
     split at h
     ·injection h with h;subst h
      simp only [Instr.fieldAt,Sem.run_bind,hu,Result.andThen_ok,hf',SV.den,Instr.sureAddr,Sem.run_pure,hplace,cE,Nat.add_assoc]
     ·injection h with h;subst h
      simp only [Instr.fieldAt,Sem.run_bind,hu,Result.andThen_ok,hf',SV.den,Instr.sureAddr,Sem.run_pure,hplace,cE]
     ·cases h
theorem rI{P:Program}{t:TypeId}{x z:SV}{i:Nat}(h:fK P t x i=some z){ρ:Nat→Loc}{n:Nat}(hx:x.lt ρ n):z.lt ρ n:=by
 unfold fK at h
 split at h
 ·cases h
 ·split at h
  ·cases h
  ·split at h
   ·cases h
   ·rename_i s hs
    cases h0:Nat.beq s.size 0 with
    |true=>rw [h0]at h;cases h
    |false=>
     rw [h0]at h;simp only [cond_false]at h
     split at h
     ·injection h with h;subst h;exact hx
     ·injection h with h;subst h;trivial
     ·cases h
def r8(P:Program)(t:TypeId)(cs:List SV)(o:Nat):Option SV:=
 match ty P t with
 |none=>none
 |some s=>bif TypeDesc.isAgg s.und then some (.agg ((cs.drop o).take s.size))else cs[o]?
theorem r7{P:Program}{t:TypeId}{cs:List SV}{o:Nat}{z:SV}(h:r8 P t cs o=some z)(ρ:Nat→Loc)(w:World):(part t (cs.map (SV.den ρ)).toArray o).run P w= .ok (z.den ρ) w:=by
 unfold r8 at h
 split at h
 ·cases h
 ·rename_i s hs
  cases ha:TypeDesc.isAgg s.und with
  |true=>
   rw [ha]at h;injection h with h;subst h
   rw [qo hs ha];simp only [SV.den,cS,List.map_take,List.map_drop];congr 3;simp [List.extract_eq_take_drop]
  |false=>
   rw [ha]at h;exact iX hs ha (by simp [show cs[o]? =some z from h]) w
theorem vl{P:Program}{t:TypeId}{cs:List SV}{o:Nat}{z:SV}(h:r8 P t cs o=some z){ρ:Nat→Loc}{n:Nat}(hx:∀y∈cs,y.lt ρ n):z.lt ρ n:=by
 unfold r8 at h
 split at h
 ·cases h
 ·rename_i s hs
  cases ha:TypeDesc.isAgg s.und with
  |true=>
   rw [ha]at h;injection h with h;subst h
   exact dj.2 fun y hy=>hx y (List.mem_of_mem_drop (List.mem_of_mem_take hy))
  |false=>rw [ha]at h;exact hx z (List.mem_of_getElem? h)
def nW(P:Program)(t:TypeId)(x:SV)(i:Nat):Option SV:=
 match structFields P t,x.aggs? with
 |some fs,some cs=>match fs[i]? with
  |none=>none
  |some f=>r8 P f.type cs f.offset
 |_,_=>none
theorem yr{P:Program}{t:TypeId}{x z:SV}{i:Nat}(h:nW P t x i=some z)(ρ:Nat→Loc)(w:World):(Instr.field t (x.den ρ) i).run P w= .ok (z.den ρ) w:=by
 unfold nW at h
 split at h
 ·rename_i fs cs hfs hcs
  split at h
  ·cases h
  ·rename_i f hf
   have hf':fs.toArray[i]? =some f:=by simpa using hf
   rw [SV.ep hcs];simp only [Instr.field,Sem.run_bind,run_underlying (iQ hfs) w,Result.andThen_ok,hf',asAgg,Sem.run_pure];exact r7 h ρ w
 ·cases h
theorem BD{P:Program}{t:TypeId}{x z:SV}{i:Nat}(h:nW P t x i=some z){ρ:Nat→Loc}{n:Nat}(hx:x.lt ρ n):z.lt ρ n:=by
 unfold nW at h
 split at h
 ·rename_i fs cs hfs hcs
  split at h
  ·cases h
  ·exact vl h (SV.wQ hcs hx)
 ·cases h
def eG(n:Int)(l:Nat):Bool:=decide (0≤n)&&decide (n<l)
theorem eO{n:Int}{l:Nat} :eG n l=true↔0≤n∧n<l:=by simp [eG]
def fI(P:Program)(t:TypeId)(x i:SV):Option (Bool×SV):=
 match ty P t,i.int? with
 |some s,some (_,n)=>
  match s.und,x with
  | .array len e,.ptr b o=>match ty P e with
    |some se=>some (eG n len,.ptr b (o+n.toNat*se.size))
    |none=>none
  | .array len e,.v (.pointer (some ⟨b,o,none⟩))=>match ty P e with
    |some se=>some (eG n len,.v (.pointer (some ⟨b,o+n.toNat*se.size,none⟩)))
    |none=>none
  | .slice e,.slc b o l _=>match ty P e with
    |some se=>some (eG n l,.ptr b (o+n.toNat*se.size))
    |none=>none
  | .slice e,.v (.slice (some ⟨b,o,none⟩) l _)=>match ty P e with
    |some se=>some (eG n l,.v (.pointer (some ⟨b,o+n.toNat*se.size,none⟩)))
    |none=>none
  |_,_=>none
 |_,_=>none
theorem qK{P:Program}{t:TypeId}{x i z:SV}{r:Bool}(h:fI P t x i=some (r,z))(hr:r=true)(ρ:Nat→Loc)(w:World):(Instr.indexAt t (x.den ρ) (i.den ρ)).run P w= .ok (z.den ρ) w:=by
 subst hr;unfold fI at h
 split at h
 ·rename_i s k n hs hi
  rw [SV.bm hi];have hu:=aq w hs
  split at h
  all_goals first
   |(cases h;done)
   |(rename_i hd
     split at h
     ·rename_i se hse
      injection h with h;injection h with h1 h2;subst h2
      have hr:=eO.1 h1;simp only [Instr.indexAt,asIntOf,Sem.run_bind,hu,hd,Result.andThen_ok,SV.den,Instr.sureAddr,Sem.run_pure,hr,and_self,if_true,bp w hse,cE,Nat.add_assoc]
     ·cases h)
 ·cases h
theorem rH{P:Program}{t:TypeId}{x i z:SV}{r:Bool}(h:fI P t x i=some (r,z)){ρ:Nat→Loc}{n:Nat}(hx:x.lt ρ n):z.lt ρ n:=by
 unfold fI at h
 split at h
 ·split at h
  all_goals first
   |(cases h;done)
   |(split at h
     ·injection h with h;injection h with h1 h2;subst h2
      first
       |trivial
       |exact hx
       |exact hx.1
     ·cases h)
 ·cases h
def nN(P:Program)(t:TypeId)(x i:SV):Option (Bool×SV):=
 match ty P t,i.int? with
 |some s,some (_,n)=>
  match s.und with
  | .array len e=>match x.aggs?,ty P e with
    |some cs,some se=>match r8 P e cs (n.toNat*se.size)with
     |some z=>some (eG n len,z)
     |none=>none
    |_,_=>none
  | .string=>match x.str? with
    |some l=>some (eG n l.length,.v (.int .u8 (l.getD n.toNat 0).toNat))
    |none=>none
  |_=>none
 |_,_=>none
theorem yk{P:Program}{t:TypeId}{x i z:SV}{r:Bool}(h:nN P t x i=some (r,z))(hr:r=true)(ρ:Nat→Loc)(w:World):(Instr.index t (x.den ρ) (i.den ρ)).run P w= .ok (z.den ρ) w:=by
 subst hr;unfold nN at h
 split at h
 ·rename_i s k n hs hi
  rw [SV.bm hi];have hu:=aq w hs
  split at h
  ·rename_i len e hd
   split at h
   ·rename_i cs se hcs hse
    split at h
    ·rename_i z' hz
     injection h with h;injection h with h1 h2;subst h2
     have hr:=eO.1 h1;rw [SV.ep hcs];simp only [Instr.index,asIntOf,Sem.run_bind,hu,hd,Result.andThen_ok,Sem.run_pure,hr,and_self,if_true,bp w hse];exact r7 hz ρ w
    ·cases h
   ·cases h
  ·rename_i hd
   split at h
   ·rename_i l hl
    injection h with h;injection h with h1 h2;subst h2
    have hr:=eO.1 h1;rw [SV.bF hl]
    have hb:(⟨l.toArray⟩:ByteArray)[n.toNat]? =some (l.getD n.toNat 0):=by
     have hlt:n.toNat<l.length:=by omega
     have:(⟨l.toArray⟩:ByteArray)[n.toNat]? =l[n.toNat]? :=by
      rw [getElem?_def]
      split
      ·rename_i hh
       rw [List.getElem?_eq_getElem (by omega)];rfl
      ·rename_i hh
       exact absurd (show n.toNat<(⟨l.toArray⟩:ByteArray).size by show n.toNat<l.toArray.size;simpa using hlt) hh
     rw [this,List.getElem?_eq_getElem hlt,List.getD_eq_getElem?_getD,List.getElem?_eq_getElem hlt];rfl
    simp only [Instr.index,asIntOf,Sem.run_bind,hu,hd,Result.andThen_ok,Sem.run_pure,hr.1,if_true,hb,SV.den]
   ·cases h
  ·cases h
 ·cases h
theorem Br{P:Program}{t:TypeId}{x i z:SV}{r:Bool}(h:nN P t x i=some (r,z)){ρ:Nat→Loc}{n:Nat}(hx:x.lt ρ n):z.lt ρ n:=by
 unfold nN at h
 split at h
 ·split at h
  ·split at h
   ·rename_i cs se hcs hse
    split at h
    ·rename_i z' hz
     injection h with h;injection h with h1 h2;subst h2
     exact vl hz (SV.wQ hcs hx)
    ·cases h
   ·cases h
  ·split at h
   ·injection h with h;injection h with h1 h2;subst h2;trivial
   ·cases h
  ·cases h
 ·cases h
def je(x:SV)(i:Nat):Option SV:=
 match x with
 | .tup vs=>vs[i]?
 | .v (.tuple vs)=>(vs.toList[i]?).map .v
 |_=>none
theorem ua{P:Program}{x z:SV}{i:Nat}(h:je x i=some z)(ρ:Nat→Loc)(w:World):(Instr.extract (x.den ρ) i).run P w= .ok (z.den ρ) w:=by
 unfold je at h
 split at h
 ·rename_i vs
  simp only [Instr.extract,SV.den,cS,List.getElem?_toArray,List.getElem?_map,h,Option.map_some,Sem.run_pure]
 ·rename_i vs
  cases hv:vs.toList[i]? with
  |none=>rw [hv]at h;cases h
  |some v=>
   rw [hv]at h;injection h with h;subst h
   have:vs[i]? =some v:=by simpa using hv
   simp only [Instr.extract,SV.den,this,Sem.run_pure]
 ·cases h
theorem wb{x z:SV}{i:Nat}(h:je x i=some z){ρ:Nat→Loc}{n:Nat}(hx:x.lt ρ n):z.lt ρ n:=by
 unfold je at h
 split at h
 ·exact dj.1 hx z (List.mem_of_getElem? h)
 ·rename_i vs
  cases hv:vs.toList[i]? with
  |none=>rw [hv]at h;cases h
  |some v=>rw [hv]at h;injection h with h;subst h;trivial
 ·cases h
def bnd(dflt:Nat):Option SV→Option Int
 |none=>some dflt
 |some x=>x.int?.map (·.2)
theorem cK{P:Program}{k:IntKind}{n:Int}{y:Nat}(h0:0≤n)(h1:n≤y)(c:BoundsCode)(w:World):(Instr.sliceBound (.int k n) y c).run P w= .ok n.toNat w:=by
 simp [Instr.sliceBound,asIntOf,h0,h1]
def bounds(len cap:Nat)(lo hi mx:Option SV):Option (Bool×Nat×Nat×Nat):=
 match mx with
 |none=>match bnd 0 lo,bnd len hi with
  |some l,some h=>some (decide (0≤l)&&decide (l≤h)&&(hi.isNone||decide (h≤cap)),l.toNat,h.toNat,cap)
  |_,_=>none
 |some m=>match bnd 0 lo,hi,m.int? with
  |some l,some hv,some (_,m)=>match hv.int? with
   |some (_,h)=>some (decide (0≤l)&&decide (l≤h)&&decide (h≤m)&&decide (m≤cap),l.toNat,h.toNat,m.toNat)
   |none=>none
  |_,_,_=>none
theorem cP{P:Program}{len cap:Nat}{lo hi mx:Option SV}{r:Bool}{l h m:Nat}(hb:bounds len cap lo hi mx=some (r,l,h,m))(hr:r=true)(ρ:Nat→Loc)(w:World)(b:Bool):
  (Instr.sliceBounds b len cap (lo.map (SV.den ρ)) (hi.map (SV.den ρ)) (mx.map (SV.den ρ))).run P w= .ok (l,h,m) w∧l≤h∧(hi.isSome=true→h≤m)∧(mx=none→m=cap)∧(mx.isSome=true→m≤cap)∧(hi=none→h=len):=by
 subst hr;unfold bounds at hb
 split at hb
 ·split at hb
  ·rename_i li hv hl hh
   injection hb with hb;injection hb with h1 hb;injection hb with h2 hb;injection hb with h3 h4
   subst h2;subst h3;subst h4
   simp only [Bool.and_eq_true,decide_eq_true_eq,Bool.or_eq_true,Option.isNone_iff_eq_none]at h1;obtain⟨⟨h0,hle⟩,hcap⟩:=h1;refine⟨?_,by omega,?_,fun _=>rfl,by simp,?_⟩
   ·cases hi with
    |none=>
     simp only [bnd,Option.some.injEq]at hh;subst hh
     cases lo with
     |none=>
      simp only [bnd,Option.some.injEq]at hl;subst hl
      rfl
     |some x=>
      simp only [bnd,Option.map_eq_some_iff]at hl;obtain⟨⟨k,n⟩,hx,rfl⟩:=hl;simp only [Instr.sliceBounds,Option.map_none,Option.map_some,SV.bm hx,Sem.run_bind,Sem.run_pure,Result.andThen_ok,Option.isSome_none,Bool.false_eq_true,if_false];rw [cK h0 hle];simp
    |some x=>
     simp only [bnd,Option.map_eq_some_iff]at hh;obtain⟨⟨k,n⟩,hx,rfl⟩:=hh;have hcap':n≤cap:=hcap.resolve_left (by simp);have hle':li≤n:=hle
     cases lo with
     |none=>
      simp only [bnd,Option.some.injEq]at hl;subst hl
      simp only [Instr.sliceBounds,Option.map_some,Option.map_none,SV.bm hx,Sem.run_bind,Sem.run_pure,Result.andThen_ok];rw [cK (by omega) hcap'];rfl
     |some xl=>
      simp only [bnd,Option.map_eq_some_iff]at hl;obtain⟨⟨k',n'⟩,hxl,rfl⟩:=hl;have h0':0≤n':=h0;have hle'':n'≤n:=hle;simp only [Instr.sliceBounds,Option.map_some,Option.map_none,SV.bm hx,SV.bm hxl,Sem.run_bind,Sem.run_pure,Result.andThen_ok,Option.isSome_none,Bool.false_eq_true,if_false];rw [cK (by omega) hcap'];simp only [Result.andThen_ok];rw [cK h0' (by omega)];rfl
   ·intro hs
    have:=hcap.resolve_left (fun e=>by rw [e]at hs;cases hs);omega
   ·intro e
    subst e;simp only [bnd,Option.some.injEq]at hh;subst hh;simp
  ·cases hb
 ·rename_i mv
  split at hb
  ·rename_i li hv k m' hl hh
   split at hb
   ·rename_i k2 hn hhv
    injection hb with hb;injection hb with h1 hb;injection hb with h2 hb;injection hb with h3 h4
    subst h2;subst h3;subst h4
    simp only [Bool.and_eq_true,decide_eq_true_eq]at h1;obtain⟨⟨⟨h0,hle⟩,hm⟩,hc⟩:=h1;refine⟨?_,by omega,fun _=>by omega,fun e=>(by cases e),fun _=>by omega,fun e=>(by cases e)⟩;simp only [Instr.sliceBounds,Option.map_some,SV.bm hh,SV.bm hhv,Sem.run_bind];rw [cK (by omega) hc];simp only [Result.andThen_ok];rw [cK (by omega) (by omega)];simp only [Result.andThen_ok]
    cases lo with
    |none=>simp only [bnd,Option.some.injEq]at hl;subst hl;rfl
    |some x=>
     simp only [bnd,Option.map_eq_some_iff]at hl;obtain⟨⟨k,n⟩,hx,rfl⟩:=hl;have h0':0≤n:=h0;have hle':n≤hn:=hle;simp only [Option.map_some,SV.bm hx,Option.isSome_some,if_true,Sem.run_bind];rw [cK h0' (by omega)];rfl
   ·cases hb
  ·cases hb
def tj(P:Program)(t:TypeId)(x:SV)(lo hi mx:Option SV):Option (Bool×SV):=
 match ty P t with
 |none=>none
 |some s=>
  match s.und with
  | .string=>match x.str?,mx with
    |some str,none=>match bounds str.length str.length lo hi none with
     |some (r,l,h,_)=>some (r,.str ((str.drop l).take (h-l)))
     |none=>none
    |_,_=>none
  | .slice e=>match ty P e with
    |none=>none
    |some se=>match x with
     | .slc b o len (.lit cap)=>match bounds len cap lo hi mx with
       |some (r,l,h,m)=>some (r,.slc b (o+bif Nat.beq m l then 0 else l*se.size) (h-l) (.lit (m-l)))
       |none=>none
     | .slc b o len (.sub b' d)=>match bounds len len lo hi mx with
       |some (r,l,h,m)=>match mx with
        |none=>some (r&&(Nat.beq l 0||Nat.blt l h),.slc b (o+l*se.size) (h-l) (.sub b' (d+l)))
        |some _=>some (r,.slc b (o+bif Nat.beq m l then 0 else l*se.size) (h-l) (.lit (m-l)))
       |none=>none
     | .v (.slice (some ⟨b,o,none⟩) len cap)=>match bounds len cap lo hi mx with
       |some (r,l,h,m)=>some (r,.v (.slice (some ⟨b,o+bif Nat.beq m l then 0 else l*se.size,none⟩) (h-l) (m-l)))
       |none=>none
     | .v (.slice a len cap)=>match bounds len cap lo hi mx with
       |some (r,l,h,m)=>some (r,.v (sliced a l h m se.size))
       |none=>none
     |_=>none
  | .array n e=>match ty P e,x with
    |some se,.ptr b o=>match bounds n n lo hi mx with
     |some (r,l,h,m)=>some (r,.slc b (o+bif Nat.beq m l then 0 else l*se.size) (h-l) (.lit (m-l)))
     |none=>none
    |some se,.v (.pointer (some a))=>match bounds n n lo hi mx with
     |some (r,l,h,m)=>some (r,.v (.slice (some (bif Nat.beq m l then a else a.add (l*se.size))) (h-l) (m-l)))
     |none=>none
    |_,_=>none
  |_=>none
theorem mr(b o m l s:Nat):(some (if m=l then(⟨b,o,none⟩:Addr)else Addr.add ⟨b,o,none⟩ (l*s)))=some ⟨b,o+(bif Nat.beq m l then 0 else l*s),none⟩:=by
 by_cases h:m=l
 ·subst h;simp [Nat.beq_refl]
 ·have:Nat.beq m l=false:=by
    cases hb:Nat.beq m l with
    |false=>rfl
    |true=>exact absurd (Nat.eq_of_beq_eq_true hb) h
  simp [h,this,cE]
theorem jB(l:List UInt8)(a b:Nat):(⟨l.toArray⟩:ByteArray).extract a b=⟨((l.drop a).take (b-a)).toArray⟩:=by
 apply ByteArray.ext;apply Array.toList_inj.1;rw [Lib.extract_data]
theorem xm{P:Program}{t:TypeId}{x z:SV}{lo hi mx:Option SV}{r:Bool}(h:tj P t x lo hi mx=some (r,z))(hr:r=true){ρ:Nat→Loc}{n:Nat}(hx:x.lt ρ n)(w:World):
  (Instr.sliceAt t (x.den ρ) (lo.map (SV.den ρ)) (hi.map (SV.den ρ)) (mx.map (SV.den ρ))).run P w= .ok (z.den ρ) w∧z.lt ρ n:=by
 unfold tj at h
 split at h
 ·cases h
 ·rename_i s hs
  have hu:=aq w hs
  split at h
  ·
   rename_i hd
   split at h
   ·rename_i str hstr
    split at h
    ·rename_i r' l h' m hb
     injection h with h;injection h with h1 h2;subst h2
     obtain⟨h3,h4,_⟩:=cP (P:=P) hb (h1.trans hr) ρ w false;refine⟨?_,trivial⟩;rw [SV.bF hstr];have hsz:(⟨str.toArray⟩:ByteArray).size=str.length:=by show str.toArray.size=_;simp
     simp only [Instr.sliceAt,Sem.run_bind,hu,hd,Result.andThen_ok,Instr.slice,hsz,Option.map_none];simp only [Option.map_none]at h3;simp only [Option.isSome_none,Bool.false_eq_true,if_false,Sem.run_pure,Result.andThen_ok,Sem.run_bind,h3,jB,SV.den]
    ·cases h
   ·cases h
  ·
   rename_i e hd
   split at h
   ·cases h
   ·rename_i se hse
    split at h
    ·rename_i b o len cap
     split at h
     ·rename_i r' l h' m hb
      injection h with h;injection h with h1 h2;subst h2
      obtain⟨h3,h4,h5,h6,h7,h8⟩:=cP (P:=P) hb (h1.trans hr) ρ w true;refine⟨?_,hx.1,trivial,?_⟩
      ·simp only [Instr.sliceAt,Sem.run_bind,hu,hd,Result.andThen_ok,Instr.slice,SV.den,cJ.den,h3,bp w hse,Sem.run_pure]
       congr 2;simp only [Option.map_some,←apply_ite some,mr,Nat.add_assoc]
      ·have hlen:len≤cap:=hx.2.2
       simp only [cJ.den]
       cases hi with
       |none=>have:=h8 rfl;cases mx with
        |none=>have:=h6 rfl;omega
        |some _=>simp [bounds]at hb
       |some _=>have:=h5 rfl;omega
     ·cases h
    ·rename_i b o len b' d
     have hlen:len≤(ρ b').cap-d:=hx.2.2
     split at h
     ·rename_i r' l h' m hb
      split at h
      ·injection h with h;injection h with h1 h2;subst h2
       rw [hr,Bool.and_eq_true]at h1;obtain⟨h1,hz⟩:=h1
       have hb':bounds len ((ρ b').cap-d) lo hi none=some (true,l,h',(ρ b').cap-d):=by
        unfold bounds at hb ⊢;simp only at hb ⊢
        split at hb
        ·rename_i li hv hl hh
         injection hb with hb;injection hb with k1 hb;injection hb with k2 hb;injection hb with k3 k4
         rw [h1]at k1;simp only [k2,k3];simp only [Bool.and_eq_true,decide_eq_true_eq,Bool.or_eq_true]at k1
         have:(decide (0≤li)&&decide (li≤hv)&&(hi.isNone||decide (hv≤(((ρ b').cap-d:Nat):Int))))=true:=by
          simp only [Bool.and_eq_true,decide_eq_true_eq,Bool.or_eq_true];exact⟨k1.1,k1.2.imp id (fun _=>by omega)⟩
         rw [this]
        ·cases hb
       obtain⟨h3,h4,h5,h6,h7,h8⟩:=cP (P:=P) hb' rfl ρ w true
       have hle:h'≤len:=by
        obtain⟨_,_,g5,g6,_,g8⟩:=cP (P:=P) hb h1 ρ w true
        cases hi with
        |none=>have:=g8 rfl;omega
        |some _=>have:=g5 rfl;have:=g6 rfl;omega
       refine⟨?_,hx.1,hx.2.1,?_⟩
       ·simp only [Instr.sliceAt,Sem.run_bind,hu,hd,Result.andThen_ok,Instr.slice,SV.den,cJ.den]
        simp only [Option.map_none]at h3 ⊢;simp only [h3,bp w hse,Result.andThen_ok,Sem.run_pure];congr 2
        ·by_cases hl0:l=0
         ·subst hl0
          split<;>simp [cE]
         ·have hlt:l<h':=by
            simp only [Bool.or_eq_true]at hz;rcases hz with hz|hz
            ·exact absurd (Nat.eq_of_beq_eq_true hz) hl0
            ·exact Nat.le_of_ble_eq_true hz
          rw [if_neg (by omega)];simp [cE,Nat.add_assoc]
        ·omega
       ·simp only [cJ.den];omega
      ·rename_i mv
       injection h with h;injection h with h1 h2;subst h2
       have hb':bounds len ((ρ b').cap-d) lo hi (some mv)=some (true,l,h',m):=by
        unfold bounds at hb ⊢;simp only at hb ⊢
        split at hb
        ·split at hb
         ·rename_i hhv
          injection hb with hb;injection hb with k1 hb;injection hb with k2 hb;injection hb with k3 k4
          rw [h1,hr]at k1;simp only [*];simp only [Bool.and_eq_true,decide_eq_true_eq]at k1 ⊢;congr 2;simp only [Bool.and_eq_true,decide_eq_true_eq];exact⟨k1.1,by omega⟩
         ·cases hb
        ·cases hb
       obtain⟨h3,h4,h5,h6,h7,h8⟩:=cP (P:=P) hb' rfl ρ w true;refine⟨?_,hx.1,trivial,?_⟩
       ·simp only [Instr.sliceAt,Sem.run_bind,hu,hd,Result.andThen_ok,Instr.slice,SV.den,cJ.den,h3,bp w hse,Sem.run_pure]
        congr 2;simp only [Option.map_some,←apply_ite some,mr,Nat.add_assoc]
       ·simp only [cJ.den]
        cases hi with
        |none=>simp [bounds]at hb
        |some _=>have:=h5 rfl;omega
     ·cases h
    ·rename_i b o len cap
     split at h
     ·rename_i r' l h' m hb
      injection h with h;injection h with h1 h2;subst h2
      obtain⟨h3,_⟩:=cP (P:=P) hb (h1.trans hr) ρ w true;refine⟨?_,trivial⟩;simp only [Instr.sliceAt,Sem.run_bind,hu,hd,Result.andThen_ok,Instr.slice,SV.den,h3,bp w hse,Sem.run_pure];congr 2;rw [←mr b o m l se.size]
      by_cases hml:m=l
      ·rw [if_pos hml,if_pos hml]
      ·rw [if_neg hml,if_neg hml];rfl
     ·cases h
    ·rename_i a len cap _
     split at h
     ·rename_i r' l h' m hb
      injection h with h;injection h with h1 h2;subst h2
      obtain⟨h3,_⟩:=cP (P:=P) hb (h1.trans hr) ρ w true;refine⟨?_,trivial⟩;simp only [Instr.sliceAt,Sem.run_bind,hu,hd,Result.andThen_ok,Instr.slice,SV.den,h3,bp w hse,Sem.run_pure,sliced]
     ·cases h
    ·cases h
  ·
   rename_i k e hd
   split at h
   ·rename_i se b o hse
    split at h
    ·rename_i r' l h' m hb
     injection h with h;injection h with h1 h2;subst h2
     obtain⟨h3,h4,h5,h6,h7,h8⟩:=cP (P:=P) hb (h1.trans hr) ρ w false;refine⟨?_,hx,trivial,?_⟩
     ·simp only [Instr.sliceAt,Sem.run_bind,hu,hd,Result.andThen_ok,SV.den,cJ.den,Instr.sureAddr,h3,bp w hse,Sem.run_pure]
      congr 2;simp only [mr,Nat.add_assoc]
     ·simp only [cJ.den]
      cases hi with
      |none=>have:=h8 rfl;cases mx with
       |none=>have:=h6 rfl;omega
       |some _=>simp [bounds]at hb
      |some _=>have:=h5 rfl;omega
    ·cases h
   ·rename_i se a hse
    split at h
    ·rename_i r' l h' m hb
     injection h with h;injection h with h1 h2;subst h2
     obtain⟨h3,_⟩:=cP (P:=P) hb (h1.trans hr) ρ w false;refine⟨?_,trivial⟩;simp only [Instr.sliceAt,Sem.run_bind,hu,hd,Result.andThen_ok,SV.den,Instr.sureAddr,h3,bp w hse,Sem.run_pure];congr 2
     by_cases hml:m=l
     ·subst hml;simp [Nat.beq_refl]
     ·have:Nat.beq m l=false:=by
        cases hb':Nat.beq m l with
        |false=>rfl
        |true=>exact absurd (Nat.eq_of_beq_eq_true hb') hml
      simp [hml,this]
    ·cases h
   ·cases h
  ·cases h
def dA(cs:List SV)(off:Nat)(vc:List SV):List SV:=cs.take off++vc++cs.drop (off+vc.length)
def oR(place:Nat→Option (Nat×Nat)):List SV→List (Nat×SV)→Option (List SV)
 |cs, []=>some cs
 |cs,(i,x)::rest=>
  match place i,x.cells with
  |some (off,size),some vc=>bif Nat.beq vc.length size&&Nat.ble (off+vc.length) cs.length then oR place (dA cs off vc) rest else none
  |_,_=>none
theorem BA(l:List Value):∀(k:Nat) (off:Nat) (cs:Array Value),off+k+l.length≤cs.size→
  ((l.zipIdx k).foldl (fun cs (x:Value×Nat)=>cs.setIfInBounds (off+x.2) x.1) cs).toList=cs.toList.take (off+k)++l++cs.toList.drop (off+k+l.length):=by
 induction l with
 |nil=>intro k off cs h;simp
 |cons x xs ih=>
  intro k off cs h;simp only [List.zipIdx_cons,List.foldl_cons];simp only [List.length_cons]at h;rw [ih (k+1) off _ (by simp;omega)];simp only [Array.toList_setIfInBounds,List.length_cons];have hlt:off+k<cs.toList.length:=by simp;omega
  rw [show off+(k+1)=(off+k)+1 by omega,show(off+k)+1+xs.length=off+k+(xs.length+1)by omega];rw [List.take_add_one,List.take_set_of_le (Nat.le_refl _),List.drop_set_of_lt (by omega)];rw [List.getElem?_set_self hlt];simp
theorem jb{ρ:Nat→Loc}{n:Nat}{place:Nat→Option (Nat×Nat)} :∀(parts:List (Nat×SV)) (cs out:List SV),oR place cs parts=some out→
  Instr.fill place (cs.map (SV.den ρ)).toArray (parts.map fun(i,x)=>(i,x.den ρ))=some (out.map (SV.den ρ)).toArray∧
  ((∀y∈cs,y.lt ρ n)→(∀p∈parts,p.2.lt ρ n)→∀y∈out,y.lt ρ n):=by
 intro parts
 induction parts with
 |nil=>intro cs out h;simp only [oR,Option.some.injEq]at h;subst h;exact⟨rfl,fun h _=>h⟩
 |cons p rest ih=>
  intro cs out h;obtain⟨i,x⟩:=p;simp only [oR]at h
  split at h
  ·rename_i off size vc hp hc
   cases hb:Nat.beq vc.length size&&Nat.ble (off+vc.length) cs.length with
   |false=>rw [hb]at h;cases h
   |true=>
    rw [hb]at h;simp only [Bool.and_eq_true]at hb;have h1:=Nat.eq_of_beq_eq_true hb.1;have h2:=Nat.le_of_ble_eq_true hb.2;simp only [cond_true]at h;obtain⟨k1,k2⟩:=ih _ _ h;have hcs:=SV.ll (ρ:=ρ) hc;have hsz:(x.den ρ).cells.size=vc.length:=by rw [←Array.length_toList,hcs,List.length_map]
    refine⟨?_,fun hy hpp=>k2 (fun y hy'=> ?_) (fun p hp=>hpp p (List.mem_cons_of_mem _ hp))⟩
    ·simp only [List.map_cons,Instr.fill,hp]
     rw [if_neg (by simp [hsz,h1];omega)];rw [←k1];congr 1;apply Array.toList_inj.1;rw [←Array.foldl_toList,Array.toList_zipIdx,hcs,BA _ 0 off _ (by simp;omega)];simp [dA,List.map_take,List.map_drop]
    ·simp only [dA,List.mem_append]at hy'
     rcases hy' with(hy'|hy')|hy'
     ·exact hy y (List.mem_of_mem_take hy')
     ·exact SV.ra hc (hpp _ (List.mem_cons_self)) y hy'
     ·exact hy y (List.mem_of_mem_drop hy')
  ·cases h
def nY(P:Program)(t:TypeId)(parts:List (Nat×SV)):Option SV:=
 match ty P t with
 |none=>none
 |some s=>
  let zero:=s.zero.cells.toList.map .v
  match s.und with
  | .struct fs=>
    bif fs.toList.all (fun f=>(ty P f.type).isSome)then
     (oR (fun i=>match fs.toList[i]? with
       |some f=>(ty P f.type).map fun s=>(f.offset,s.size)
       |none=>none) zero parts).map .agg
    else none
  | .array _ e=>match ty P e with
    |some se=>(oR (fun i=>some (i*se.size,se.size)) zero parts).map .agg
    |none=>none
  |_=>none
theorem xJ{P:Program}(w:World):∀(l:List Field),(l.all fun f=>(ty P f.type).isSome)=true→
  (l.mapM (fun(f:Field)=>do pure (f.offset,←sizeOf f.type)):Sem (List (Nat×Nat))).run P w= .ok (l.map fun(f:Field)=>(f.offset,((ty P f.type).map (·.size)).getD 0)) w:=by
 intro l
 induction l with
 |nil=>intro _;rfl
 |cons f fs ih=>
  intro h;simp only [List.all_cons,Bool.and_eq_true]at h;obtain⟨s,hs⟩:=Option.isSome_iff_exists.1 h.1;simp only [List.mapM_cons,Sem.run_bind,bp w hs,Result.andThen_ok,Sem.run_pure,ih h.2,List.map_cons,hs,Option.map_some,Option.getD_some]
theorem yL{P:Program}{t:TypeId}{parts:List (Nat×SV)}{z:SV}(h:nY P t parts=some z)(ρ:Nat→Loc)(w:World):
  (Instr.build t (parts.map fun(i,x)=>(i,x.den ρ)).toArray).run P w= .ok (z.den ρ) w:=by
 unfold nY at h
 split at h
 ·cases h
 ·rename_i s hs
  simp only at h
  have hz:((s.zero.cells.toList.map SV.v).map (SV.den ρ)).toArray=s.zero.cells:=by
   simp [Function.comp_def,SV.den]
  split at h
  ·rename_i fs hd
   cases hall:fs.toList.all fun f=>(ty P f.type).isSome with
   |false=>rw [hall]at h;cases h
   |true=>
    rw [hall]at h;simp only [cond_true,Option.map_eq_some_iff]at h;obtain⟨out,hf,rfl⟩:=h;obtain⟨k1,_⟩:=jb (ρ:=ρ) (n:=0) parts _ out hf;rw [hz]at k1
    have hpl:(fs.mapM (fun(f:Field)=>do pure (f.offset,←sizeOf f.type)):Sem (Array (Nat×Nat))).run P w= .ok (fs.toList.map fun(f:Field)=>(f.offset,((ty P f.type).map (·.size)).getD 0)).toArray w:=by
     rw [Array.mapM_eq_mapM_toList];simp only [Sem.run_map,xJ w fs.toList hall,Result.andThen_ok]
    simp only [Instr.build,Sem.run_bind,cu w hs,aq w hs,Result.andThen_ok,hd,hpl]
    have hfun:(fun(i:Nat)=>((fs.toList.map fun(f:Field)=>(f.offset,((ty P f.type).map (·.size)).getD 0)).toArray)[i]?)=(fun(i:Nat)=>match fs.toList[i]? with
     |some (f:Field)=>(ty P f.type).map fun s=>(f.offset,s.size)
     |none=>none):=by
     funext i
     simp only [List.getElem?_toArray,List.getElem?_map]
     cases hi:fs.toList[i]? with
     |none=>rfl
     |some f=>
      obtain⟨s',hs'⟩:=Option.isSome_iff_exists.1 (List.all_eq_true.1 hall f (List.mem_of_getElem? hi));simp [hs']
    simp only [hfun,k1,Sem.run_pure,SV.den,cS]
  ·rename_i k e hd
   split at h
   ·rename_i se hse
    simp only [Option.map_eq_some_iff]at h;obtain⟨out,hf,rfl⟩:=h;obtain⟨k1,_⟩:=jb (ρ:=ρ) (n:=0) parts _ out hf;rw [hz]at k1;simp only [Instr.build,Sem.run_bind,cu w hs,aq w hs,Result.andThen_ok,hd,bp w hse,k1,Sem.run_pure,SV.den,cS]
   ·cases h
  ·cases h
theorem Ca{P:Program}{t:TypeId}{parts:List (Nat×SV)}{z:SV}(h:nY P t parts=some z){ρ:Nat→Loc}{n:Nat}(hp:∀p∈parts,p.2.lt ρ n):z.lt ρ n:=by
 unfold nY at h
 split at h
 ·cases h
 ·rename_i s hs
  simp only at h;have hz:∀y∈s.zero.cells.toList.map SV.v,y.lt ρ n:=fun y hy=>by obtain⟨x,_,rfl⟩:=List.mem_map.1 hy;trivial
  split at h
  ·rename_i fs hd
   cases hall:fs.toList.all fun f=>(ty P f.type).isSome with
   |false=>rw [hall]at h;cases h
   |true=>
    rw [hall]at h;simp only [cond_true,Option.map_eq_some_iff]at h;obtain⟨out,hf,rfl⟩:=h;exact dj.2 ((jb (ρ:=ρ) (n:=n) parts _ out hf).2 hz hp)
  ·split at h
   ·simp only [Option.map_eq_some_iff]at h
    obtain⟨out,hf,rfl⟩:=h;exact dj.2 ((jb (ρ:=ρ) (n:=n) parts _ out hf).2 hz hp)
   ·cases h
  ·cases h
end
end Go.Sx
