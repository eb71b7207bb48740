/-
  Parts of the proof: SxY SxZ CoA KvA TrA MdA DdA NiA PaA PaB PaC PaD PaE PaF StA NdA PbA EnA
-/
import Derived.Test.YtmmlhdiejkknnaaGreatDoorG05
import Derived.Test.YtmmlhdiejkknnaaGreatDoorProg
import Derived.Test.YtmmlhdiejkknnaaGreatDoorRows
import Derived.WalkKit
import Derived.Laws.Externs
import Derived.Lib.Bytealg
import Derived.Lib.CutLaws
import Derived.Lib.IndexMore
import Derived.Tactics
import Derived.Tactics2
import Derived.Shelf.RegionOpen
import Derived.Shelf.Abstract
import Derived.Shelf.RegionOpenPlain
import Derived.Laws.RangeString
import Derived.LoopTactic
import Derived.Laws.RangeAny
import Derived.RangeFuncNested
import Derived.RangeFuncBound
import Derived.RangeFuncCalls
import Derived.RangeFuncLeaves
import Derived.OwnWalkIn
import Derived.TacticsInMore
import Derived.LoopNIn
import Derived.LoopIn
import Derived.WalkSmall
import Derived.RangeFuncFrom
set_option maxRecDepth 100000
set_option maxHeartbeats 0
namespace Go.Sx
noncomputable section
variable {dfs : List Deferred}
structure aY where
 γ:Type
 pre:γ→List Value→aa→Prop
 post:γ→List Value→aa→Value→aa→Prop
def tD:SV→Option Value
 | .v x=>some x
 | .str l=>some (.string ⟨l.toArray⟩)
 | .agg cs=>match iC cs with
   |some vs=>some (.agg vs.toArray)
   |none=>none
 |_=>none
theorem qj{x:SV}{v:Value}(h:tD x=some v)(ρ:Nat→Loc):x.den ρ=v:=by
 unfold tD at h
 split at h
 ·injection h
 ·injection h
 ·rename_i cs
  split at h
  ·rename_i vs hvs
   injection h with h
   rw [←h,SV.den,cS,dW ρ cs vs hvs]
  ·cases h
 ·cases h
def pj:List SV→Option (List Value)
 | []=>some []
 |x::xs=>match tD x with
  |some v=>match pj xs with
   |some vs=>some (v::vs)
   |none=>none
  |none=>none
theorem oC(ρ:Nat→Loc):∀(l:List SV) (vs:List Value),pj l=some vs→l.map (SV.den ρ)=vs
 | [],vs,h=>by injection h
 |x::xs,vs,h=>by
  simp only [pj]at h
  split at h
  ·rename_i v hv
   split at h
   ·rename_i us hus
    injection h with h;subst h
    rw [List.map_cons,qj hv ρ,oC ρ xs us hus]
   ·cases h
  ·cases h
def qh:SV→Option Value
 | .tup cs=>match pj cs with
   |some vs=>some (.tuple vs.toArray)
   |none=>none
 | .v x=>some x
 | .fn f []=>some (.func (.func f) #[] #[])
 |x=>tD x
theorem qg{x:SV}{v:Value}(h:qh x=some v)(ρ:Nat→Loc):x.den ρ=v:=by
 unfold qh at h
 split at h
 ·rename_i cs
  split at h
  ·rename_i vs hvs
   injection h with h
   rw [←h,SV.den,cS,oC ρ cs vs hvs]
  ·cases h
 ·injection h
 ·injection h
 ·exact qj h ρ
def iu:List SV→Option (List Value)
 | []=>some []
 |x::xs=>match qh x with
  |some v=>match iu xs with
   |some vs=>some (v::vs)
   |none=>none
  |none=>none
theorem kl(ρ:Nat→Loc):∀(l:List SV) (vs:List Value),iu l=some vs→l.map (SV.den ρ)=vs
 | [],vs,h=>by injection h
 |x::xs,vs,h=>by
  simp only [iu]at h
  split at h
  ·rename_i v hv
   split at h
   ·rename_i us hus
    injection h with h;subst h
    rw [List.map_cons,qg hv ρ,kl ρ xs us hus]
   ·cases h
  ·cases h
def ctS(S:aY):CT:=fun args h K=>match iu args with
 |some vs=>h.M.D (∃g,S.pre g vs h.M.A∧∀v A',S.post g vs h.M.A v A'→K (.v v) (h.put A')=true)
 |none=>false
structure z1(A A':aa)(w w':World):Prop where
 os:w'.os=w.os
 out:w'.output=w.output
 tape:w'.tape=w.tape
 same:∀k,A.blk k=none→k<w.heap.size→w'.heap[k]? =w.heap[k]?
 sub:∀k o,A'.blk k=some o→w'.heap[k]? =some o
 dom:∀k o,A'.blk k=some o→(∃o',A.blk k=some o')∨w.heap.size≤k
def FOk(P:Program)(f:FuncId)(S:aY):Prop:=
 ∀g vs A w,(∀k o,A.blk k=some o→w.heap[k]? =some o)→S.pre g vs A→db P f vs.toArray w (fun v w'=>∃A',S.post g vs A v A'∧z1 A A' w w') fun _ _=>False
theorem Es{P:Program}{f:FuncId}{S:aY}(hS:FOk P f S){args:List SV}{h:HS}{K:SV→HS→Bool}(hk:ctS S args h K=true){ρ:Nat→Loc}{w:World}(R:aL ρ h w):
  db P f (args.map (SV.den ρ)).toArray w (cT ρ h K) fun _ _=>False:=by
 unfold ctS at hk
 split at hk
 ·rename_i vs hvs
  obtain⟨g,hp,hk⟩:=(h.M.X.hD _).1 hk;rw [kl ρ args vs hvs];refine(hS g vs h.M.A w R.are hp).mono (fun v w' ⟨A',k1,k2⟩=> ?_) fun _ _ h=>h
  exact⟨.v v,h.put A',ρ,hk v A' k1,rfl,trivial,R.sS k2.os k2.out k2.tape k2.same k2.sub k2.dom,Ext.refl _ _,Nat.le_refl _,Mem.cH _ _⟩
 ·exact absurd hk Bool.false_ne_true
abbrev opMem(blk:Nat→Option Obj)(os:Os)(out:Array (Nat×ByteArray))(tape:Nat→Question→Nat)(A:aa)(D:Prop→Bool)(hD:∀p,D p=true↔p)(al:TypeId→Bool:=fun _=>false):Mem:=
 ⟨blk,os,out,tape, [],fun _ _ h=>(by cases h),⟨A,D,hD,true,al⟩⟩
def mU(S:aY)(g:S.γ)(vs:List Value)(A:aa):SV→HS→Bool:=fun z h=>match qh z with
 |some v=>h.M.D (S.post g vs A v h.M.A)
 |none=>false
def endK(S:aY)(g:S.γ)(vs:List Value)(A:aa):SV→HS→Bool:=fun z h=>
 h.M.D (∀ρ w,aL ρ h w→z.lt ρ h.nx→∃A',S.post g vs A (z.den ρ) A'∧(∀k o,A'.blk k=some o→w.heap[k]? =some o)∧∀k o,A'.blk k=some o→(∃o',h.M.A.blk k=some o')∨∃b B,h.H.get b=some B∧(ρ b).blk=k)
theorem wg{S:aY}{g:S.γ}{vs:List Value}{A:aa}{z:SV}{h:HS}(hk:mU S g vs A z h=true):endK S g vs A z h=true:=by
 unfold mU at hk
 split at hk
 ·rename_i v hv
  have hk:=(h.M.X.hD _).1 hk;refine(h.M.X.hD _).2 fun ρ w R _=>⟨h.M.A,by rw [qg hv ρ];exact hk,R.are,fun k o ho=> .inl ⟨o,ho⟩⟩
 ·exact absurd hk Bool.false_ne_true
def y8(P:Program)(C:FuncId→Option CT)(Λ:fl)(n:Nat)(f:FuncId)(args:List SV)(h:HS)(K:SV→HS→Bool):Bool:=rW P Λ.mg (fx P C Λ n) noC f args h K fun _ _=>false
theorem ov{P:Program}(hm:P.follows .mixedOrders=true){C:FuncId→Option CT}(hC:aI P C){Λ:fl}(hΛ:cZ P Λ)(n:Nat):∀f args h K,y8 P C Λ n f args h K→∀ρ w,aL ρ h w→(∀x∈args,x.lt ρ h.nx)→db P f (args.map (SV.den ρ)).toArray w (cT ρ h K) fun _ _=>False:=
 fun f args h K hk ρ w H ha=>(ke (aA P) (iO hm hC hΛ n).1 f args h K _ hk ρ w H ha).mono (fun _ _ h=>h) fun _ _ h=>qw h
abbrev Run(P:Program)(C:FuncId→Option CT)(Λ:fl)(n:Nat)(f:FuncId)(args:List SV)(A:aa)(E:SV→HS→Bool)(al:TypeId→Bool:=fun _=>false):Prop:=
 ∀blk os out tape D hD,y8 P C Λ n f args ⟨.e,0,opMem blk os out tape A D hD al⟩ E=true
theorem qQ{P:Program}(hm:P.follows .mixedOrders=true){f:FuncId}{S:aY}{E:(g:S.γ)→List Value→aa→SV→HS→Bool}(hE:∀g vs A z h,E g vs A z h=true→endK S g vs A z h=true)(al:TypeId→Bool)
  (hr:∀g vs A,S.pre g vs A→∃C Λ n args,aI P C∧cZ P Λ∧iu args=some vs∧(∀ρ,∀x∈args,x.lt ρ 0)∧Run P C Λ n f args A (E g vs A) al):FOk P f S:=by
 classical
 intro gh vs A w hA hp;obtain⟨C,Λ,n,args,hC,hΛ,h1,h2,h3⟩:=hr gh vs A hp
 have R:aL (fun _=>⟨0,0,0⟩) ⟨.e,0,opMem (fun k=>if A.blk k=none then w.heap[k]? else none) w.os w.output w.tape A (fun p=>decide p) (fun p=>by simp) al⟩ w:=by
  refine⟨rfl,rfl,rfl,fun k o hk=> ?_,fun b B hb=> ?_,fun b b' B B' hb=> ?_,fun b B hb=> ?_,hA,fun b B hb=> ?_,fun k o hk=> ?_⟩
  ·have hk:(if A.blk k=none then w.heap[k]? else none)=some o:=hk
   split at hk
   ·exact hk
   ·cases hk
  ·rw [T.dY]at hb;cases hb
  ·rw [T.dY]at hb;cases hb
  ·rw [T.dY]at hb;cases hb
  ·rw [T.dY]at hb;cases hb
  ·have hk:A.blk k=some o:=hk
   show(if A.blk k=none then w.heap[k]? else none)=none
   rw [if_neg (by rw [hk];simp)]
 have g:=ov hm hC hΛ n f args _ _ (h3 _ _ _ _ _ _) _ w R (fun x hx=>h2 _ x hx);rw [kl _ args vs h1]at g;refine g.mono (fun v w' ⟨z,h',ρ',hz,hv,hl,R',_,_,hle⟩=> ?_) fun _ _ h=>h
 obtain⟨A',k1,k2,k3⟩:=(h'.M.X.hD _).1 (hE _ _ _ _ _ hz) ρ' w' R' hl
 have old:∀k,A.blk k=none→k<w.heap.size→h'.M.blk k=w.heap[k]? :=fun k hk hlt=>by
  have h0:w.heap[k]? =some w.heap[k]:=Array.getElem?_eq_getElem hlt;have:=hle.1 k w.heap[k] (by show(if A.blk k=none then w.heap[k]? else none)=_;rw [if_pos hk];exact h0);rw [this,h0]
 refine⟨A',by rw [hv];exact k1,R'.os.trans hle.2.1,R'.out.trans hle.2.2.1,R'.tape.trans hle.2.2.2,fun k hk hlt=> ?_,k2,fun k o ho=> ?_⟩
 ·have h0:w.heap[k]? =some w.heap[k]:=Array.getElem?_eq_getElem hlt
  rw [R'.mem k w.heap[k] (by rw [old k hk hlt];exact h0),h0]
 ·cases hA0:A.blk k with
  |some o'=>exact .inl ⟨o',rfl⟩
  |none=>
   refine .inr (Nat.le_of_not_lt fun hlt=> ?_);have h0:=old k hA0 hlt;have h00:w.heap[k]? =some w.heap[k]:=Array.getElem?_eq_getElem hlt;rcases k3 k o ho with⟨o',h4⟩|⟨b,B,h4,h5⟩
   ·rw [R'.disj k o' h4,h00]at h0;cases h0
   ·have:=R'.apart b B h4
    rw [h5,h0,h00]at this;cases this
theorem yp{P:Program}(hm:P.follows .mixedOrders=true){f:FuncId}{S:aY}
  (hr:∀g vs A,S.pre g vs A→∃C Λ n args,aI P C∧cZ P Λ∧iu args=some vs∧(∀ρ,∀x∈args,x.lt ρ 0)∧Run P C Λ n f args A (mU S g vs A)):FOk P f S:=
 qQ hm (fun _ _ _ _ _ h=>wg h) (fun _=>false) hr
mutual
def SV.bel(n:Nat):SV→Prop
 | .v _=>True
 | .str _=>True
 | .ptr b _=>b<n
 | .slc b _ _ c=>b<n∧c.lt n
 | .mp b=>b<n
 | .agg cs=>SV.yM n cs
 | .tup cs=>SV.yM n cs
 | .ifc _ x=>x.bel n
 | .fn _ cs=>SV.yM n cs
def SV.yM(n:Nat):List SV→Prop
 | []=>True
 |x::xs=>x.bel n∧SV.yM n xs
end
mutual
theorem SV.kL{ρ:Nat→Loc}{n m:Nat} :∀(x:SV),x.bel n→x.lt ρ m→x.lt ρ n
 | .v _,_,_=>trivial
 | .str _,_,_=>trivial
 | .ptr _ _,h,_=>h
 | .slc _ _ _ _,h,k=>⟨h.1,h.2,k.2.2⟩
 | .mp _,h,_=>h
 | .agg cs,h,k=>SV.pD cs h k
 | .tup cs,h,k=>SV.pD cs h k
 | .ifc _ x,h,k=>SV.kL x h k
 | .fn _ cs,h,k=>SV.pD cs h k
theorem SV.pD{ρ:Nat→Loc}{n m:Nat} :∀(l:List SV),SV.yM n l→SV.lts ρ m l→SV.lts ρ n l
 | [],_,_=>trivial
 |x::xs,h,k=>⟨SV.kL x h.1 k.1,SV.pD xs h.2 k.2⟩
end
def ud(n:Nat):List (SV×SV×Nat)→Prop
 | []=>True
 |e::es=>e.1.bel n∧e.2.1.bel n∧ud n es
def bD.bel(n:Nat):bD→Prop
 | .cells cs _ _=>SV.yM n cs
 | .map es _=>ud n es
 | .siter _ _=>True
 | .miter m _ _ _=>m<n
theorem wG{n:Nat} :∀ {l:List SV},SV.yM n l→∀x∈l,x.bel n
 | [],_,_,h=>by cases h
 |y::ys,h,x,hx=>by
  rcases List.mem_cons.1 hx with rfl|hx
  ·exact h.1
  ·exact wG h.2 x hx
theorem kG{n:Nat} :∀ {l:List (SV×SV×Nat)},ud n l→∀e∈l,e.1.bel n∧e.2.1.bel n
 | [],_,_,h=>by cases h
 |y::ys,h,x,hx=>by
  rcases List.mem_cons.1 hx with rfl|hx
  ·exact⟨h.1,h.2.1⟩
  ·exact kG h.2.2 x hx
theorem bD.kL{ρ:Nat→Loc}{n m:Nat}{B:bD}(h:B.bel n)(k:B.lt ρ m):B.lt ρ n:=by
 cases B with
 |cells cs es τ=>exact fun x hx=>SV.kL x (wG h x hx) (k x hx)
 |map es clock=>exact fun e he=>⟨SV.kL _ (kG h e he).1 (k e he).1,SV.kL _ (kG h e he).2 (k e he).2⟩
 |siter s pos=>trivial
 |miter m' since seen last=>exact h
structure fj where
 γ:Type
 G:γ→Prop
 keepS:List Nat
 keepB:List Nat
 sl:γ→List (Nat×SV)
 bl:γ→List (Nat×bD)
 ar:γ→aa
 mu:γ→Nat
def jK{α:Type}(t:T α):List Nat→T α→T α
 | [],acc=>acc
 |i::is,acc=>match t.get i with
  |some x=>jK t is (acc.set i x)
  |none=>jK t is acc
theorem kT{α:Type}{t:T α} :∀ {is:List Nat} {acc:T α} {i:Nat} {x:α},(jK t is acc).get i=some x→(i∈is∧t.get i=some x)∨acc.get i=some x
 | [],_,_,_,h=> .inr h
 |j::js,acc,i,x,h=>by
  simp only [jK]at h
  split at h
  ·rename_i y hy
   rcases kT h with⟨h1,h2⟩|h
   ·exact .inl ⟨List.mem_cons_of_mem _ h1,h2⟩
   ·rcases T.bW h with⟨h1,h2⟩|⟨_,h⟩
    ·subst h1;subst h2;exact .inl ⟨List.mem_cons_self,hy⟩
    ·exact .inr h
  ·rcases kT h with⟨h1,h2⟩|h
   ·exact .inl ⟨List.mem_cons_of_mem _ h1,h2⟩
   ·exact .inr h
def rC{α:Type} :List (Nat×α)→T α→T α
 | [],t=>t
 |s::ss,t=>rC ss (t.set s.1 s.2)
theorem qc{α:Type} :∀ {l:List (Nat×α)} {t:T α} {i:Nat} {x:α},(rC l t).get i=some x→(i,x)∈l∨t.get i=some x
 | [],_,_,_,h=> .inr h
 |s::ss,t,i,x,h=>by
  rcases qc (l:=ss) h with h|h
  ·exact .inl (List.mem_cons_of_mem _ h)
  ·rcases T.bW h with⟨h1,h2⟩|⟨_,h⟩
   ·subst h1;subst h2;exact .inl (by simp)
   ·exact .inr h
def rV{α:Type}(t t':T α):List Nat→Prop
 | []=>True
 |i::is=>t'.get i=t.get i∧rV t t' is
theorem nq{α:Type}{t t':T α} :∀ {is:List Nat},rV t t' is→∀i∈is,t'.get i=t.get i
 | [],_,_,h=>by cases h
 |j::js,h,i,hi=>by
  rcases List.mem_cons.1 hi with rfl|hi
  ·exact h.1
  ·exact nq h.2 i hi
theorem dr{α:Type}{t t':T α}{i:Nat}{x:α}(h1:t'.get i=some x)(h2:t.get i=some x):t'.get i=t.get i:=h1.trans h2.symm
def atP{α:Type}(t:T α):List (Nat×α)→Prop
 | []=>True
 |s::ss=>t.get s.1=some s.2∧atP t ss
theorem uw{α:Type}{t:T α} :∀ {l:List (Nat×α)},atP t l→∀s∈l,t.get s.1=some s.2
 | [],_,_,h=>by cases h
 |x::xs,h,s,hs=>by
  rcases List.mem_cons.1 hs with rfl|hs
  ·exact h.1
  ·exact uw h.2 s hs
def belS(n:Nat):List (Nat×SV)→Prop
 | []=>True
 |s::ss=>s.2.bel n∧belS n ss
def belB(n:Nat):List (Nat×bD)→Prop
 | []=>True
 |s::ss=>s.1<n∧s.2.bel n∧belB n ss
theorem wH{n:Nat} :∀ {l:List (Nat×SV)},belS n l→∀s∈l,s.2.bel n
 | [],_,_,h=>by cases h
 |x::xs,h,s,hs=>by
  rcases List.mem_cons.1 hs with rfl|hs
  ·exact h.1
  ·exact wH h.2 s hs
theorem wI{n:Nat} :∀ {l:List (Nat×bD)},belB n l→∀s∈l,s.1<n∧s.2.bel n
 | [],_,_,h=>by cases h
 |x::xs,h,s,hs=>by
  rcases List.mem_cons.1 hs with rfl|hs
  ·exact⟨h.1,h.2.1⟩
  ·exact wI h.2.2 s hs
def fj.At(S:fj)(g:S.γ)(tm:T SV)(h:HS):Prop:=S.G g∧atP tm (S.sl g)∧atP h.H (S.bl g)∧h.M.A=S.ar g
def loopK(S:fj)(id:Nat)(K:KT)(tm0:T SV)(H0:T bD)(m:Nat):KT:=fun e tm h=>match e with
 | .nrm=>h.M.D (∃g,S.At g tm h∧S.mu g<m∧rV tm0 tm S.keepS∧rV H0 h.H S.keepB)
 | .ext i=>bif Nat.beq i id then K .nrm tm h else K (.ext i) tm h
 |e=>K e tm h
def x8(P:Program)(C:FuncId→Option CT)(Λ:fl)(n:Nat)(f:FuncId)(id:Nat):LT:=fun c sz K tm h=>match c with
 | .loop b=>h.M.D (∃S:fj,(∃g,S.At g tm h)∧∀g,S.G g→belS h.nx (S.sl g)∧belB h.nx (S.bl g)∧
    rU ⟨rC (S.bl g) (jK h.H S.keepB .e),h.nx,h.M.put (S.ar g)⟩ (fun h1=>fx P C Λ n f sz b (loopK S id K tm h.H (S.mu g)) (rC (S.sl g) (jK tm S.keepS .e)) h1)=true)
 |_=>false
theorem tQ{P:Program}(hm:P.follows .mixedOrders=true){C:FuncId→Option CT}(hC:aI P C){Λ:fl}(hΛ:cZ P Λ)(n:Nat)(f:FuncId)(id:Nat)
  {c:Code} {sz:Nat} {K:KT} {tm:T SV} {h:HS} (hW:iL P f (.block id c)) (hk:x8 P C Λ n f id c sz K tm h=true) {ρ:Nat→Loc} {a:Act} {w:World} (A:cG dfs ρ tm sz h.nx a) (R:aL ρ h w):
  (Code.block id c).wp P (gy dfs ρ h sz K) a w:=by
 unfold x8 at hk
 split at hk
 ·rename_i b
  obtain⟨S,⟨g0,h0⟩,hk⟩:=(h.M.X.hD _).1 hk
  have state:∀(g:S.γ) (tm':T SV) (h':HS) (ρ':Nat→Loc) (a':Act) (w':World),S.At g tm' h'→rV tm tm' S.keepS→rV h.H h'.H S.keepB→cG dfs ρ' tm' sz h'.nx a'→aL ρ' h' w'→Ext ρ ρ' h.nx→h.M.le h'.M→
    cG dfs ρ' (rC (S.sl g) (jK tm S.keepS .e)) sz h.nx a'∧aL ρ' ⟨rC (S.bl g) (jK h.H S.keepB .e),h.nx,h.M.put (S.ar g)⟩ w':=by
   intro g tm' h' ρ' a' w' ⟨hG,h1,h2,h3⟩ hs1 hs2 A' R' hx hle;obtain⟨hb1,hb2,_⟩:=hk g hG
   have slot:∀i x,(rC (S.sl g) (jK tm S.keepS .e)).get i=some x→tm'.get i=some x∧x.lt ρ' h.nx:=fun i x hi=>by
    rcases qc hi with hi|hi
    ·have h4:=uw h1 _ hi
     exact⟨h4,SV.kL x (wH hb1 _ hi) (A'.at_ i x h4).1⟩
    ·rcases kT hi with⟨h4,h5⟩|h4
     ·refine⟨by rw [nq hs1 i h4];exact h5,?_⟩
      exact SV.eK hx (Nat.le_refl _) x (A.at_ i x h5).1
     ·rw [T.dY]at h4;cases h4
   have blk:∀i B,(rC (S.bl g) (jK h.H S.keepB .e)).get i=some B→h'.H.get i=some B∧i<h.nx∧B.lt ρ' h.nx:=fun i B hi=>by
    rcases qc hi with hi|hi
    ·have h4:=uw h2 _ hi
     have h5:=wI hb2 _ hi;exact⟨h4,h5.1,bD.kL h5.2 (R'.blk i B h4).2.1⟩
    ·rcases kT hi with⟨h4,h5⟩|h4
     ·refine⟨by rw [nq hs2 i h4];exact h5,(R.blk i B h5).1,?_⟩
      exact bD.eK hx (Nat.le_refl _) (R.blk i B h5).2.1
     ·rw [T.dY]at h4;cases h4
   refine⟨⟨A'.size,fun i x hi=>⟨(slot i x hi).2,(A'.at_ i x (slot i x hi).1).2⟩,A'.defers⟩,R'.os.trans hle.2.1,R'.out.trans hle.2.2.1,R'.tape.trans hle.2.2.2,fun k o hk=>R'.mem k o (hle.1 k o hk),fun i B hi=> ?_,fun i i' B B' hi hi' he=>R'.inj i i' B B' (blk i B hi).1 (blk i' B' hi').1 he,fun i B hi=> ?_,fun k o hk=> ?_,fun i B hi=> ?_,fun k o hk=> ?_⟩
   ·exact⟨(blk i B hi).2.1,(blk i B hi).2.2,(R'.blk i B (blk i B hi).1).2.2⟩
   ·have:=R'.apart i B (blk i B hi).1
    show h.M.blk (ρ' i).blk=none
    cases hb:h.M.blk (ρ' i).blk with
    |none=>rfl
    |some o=>rw [hle.1 _ o hb]at this;cases this
   ·have hk:(S.ar g).blk k=some o:=hk
    rw [←h3]at hk;exact R'.are k o hk
   ·show(S.ar g).blk (ρ' i).blk=none
    rw [←h3];exact R'.aprA i B (blk i B hi).1
   ·have hk:(S.ar g).blk k=some o:=hk
    rw [←h3]at hk;have:=R'.disj k o hk;show h.M.blk k=none
    cases hb:h.M.blk k with
    |none=>rfl
    |some o'=>rw [hle.1 _ o' hb]at this;cases this
  have key:∀(m:Nat) (g:S.γ) (ρ1:Nat→Loc) (a1:Act) (w1:World),S.mu g<m→S.G g→Ext ρ ρ1 h.nx→cG dfs ρ1 (rC (S.sl g) (jK tm S.keepS .e)) sz h.nx a1→aL ρ1 ⟨rC (S.bl g) (jK h.H S.keepB .e),h.nx,h.M.put (S.ar g)⟩ w1→
    Code.rounds P b (Exit.inBlock id (gy dfs ρ h sz K)) m a1 w1:=by
   intro m
   induction m with
   |zero=>intro g ρ1 a1 w1 hm;omega
   |succ m ih=>
    intro g ρ1 a1 w1 hlt hG hx1 A1 R1;obtain⟨_,_,hrun⟩:=hk g hG;rw [kc]at hrun;rw [rounds_succ];refine wp_mono ((iO hm hC hΛ n).1 f sz b _ _ _ (hW.to .block|>.to .loop) hrun dfs ρ1 a1 w1 A1 R1) fun e a' w' gx=> ?_
    have fin:∀ {tm':T SV} {h':HS} {ρ':Nat→Loc},Ext ρ1 ρ' h.nx→h.nx≤h'.nx→(h.M.put (S.ar g)).le h'.M→Ext ρ ρ' h.nx∧h.nx≤h'.nx∧h.M.le h'.M:=fun hx hn hle=>⟨hx1.trans hx (Nat.le_refl _),hn,hle⟩
    cases e with
    |normal=>
     obtain⟨tm',h',ρ',hk',A',R',hx,hn,hle⟩:=gx;obtain⟨g',hAt,hmu,hs1,hs2⟩:=(h'.M.X.hD _).1 hk';obtain⟨A2,R2⟩:=state g' tm' h' ρ' a' w' hAt hs1 hs2 A' R' (hx1.trans hx (Nat.le_refl _)) hle;exact ih g' ρ' a' w' (by omega) hAt.1 (hx1.trans hx (Nat.le_refl _)) A2 R2
    |exit i=>
     obtain⟨tm',h',ρ',hk',A',R',hx,hn,hle⟩:=gx;have hk2:(bif Nat.beq i id then K .nrm tm' h' else K (.ext i) tm' h')=true:=hk';show Exit.inBlock id (gy dfs ρ h sz K) (.exit i) a' w'
     cases hb:Nat.beq i id with
     |true=>
      rw [hb]at hk2;have:=Nat.eq_of_beq_eq_true hb;subst this;simp only [Exit.inBlock,if_true];exact⟨tm',h',ρ',hk2,A',R',hx1.trans hx (Nat.le_refl _),hn,hle⟩
     |false=>
      rw [hb]at hk2;have hne:i≠id:=fun e=>by rw [e,Nat.beq_refl]at hb;cases hb
      simp only [Exit.inBlock,hne,if_false];exact⟨tm',h',ρ',hk2,A',R',hx1.trans hx (Nat.le_refl _),hn,hle⟩
    |ret=>
     obtain⟨tm',h',ρ',hk',A',R',hx,hn,hle⟩:=gx;exact⟨tm',h',ρ',hk',A',R',hx1.trans hx (Nat.le_refl _),hn,hle⟩
    |goto l=>exact gx.elim
    |panic c=>
     obtain⟨x,tm',h',ρ',e,l,hk',A',R',hx,hn,hle⟩:=gx;exact⟨x,tm',h',ρ',e,l,hk',A',R',hx1.trans hx (Nat.le_refl _),hn,hle⟩
    |outgrown=>exact gx.elim
  obtain⟨A0,R0⟩:=state g0 tm h ρ a w h0 (by
   generalize S.keepS=l
   induction l with
   |nil=>trivial
   |cons i is ih=>exact⟨rfl,ih⟩) (by
   generalize S.keepB=l
   induction l with
   |nil=>trivial
   |cons i is ih=>exact⟨rfl,ih⟩) A R (Ext.refl _ _) (Mem.le_refl _)
  refine wp_block (wp_loop_rounds (S.mu g0+1) (key (S.mu g0+1) g0 ρ a w (Nat.lt_succ_self _) h0.1 (Ext.refl _ _) A0 R0))
 ·exact absurd hk Bool.false_ne_true
structure Cg where
 f:FuncId
 id:Nat
 lt:LT
def zu(l:List Cg)(f:FuncId)(id:Nat):Option LT:=match l with
 | []=>none
 |x::xs=>bif Nat.beq f x.f&&Nat.beq id x.id then some x.lt else zu xs f id
def Cg.Ok(P:Program)(x:Cg):Prop:=∀c sz K tm h,iL P x.f (.block x.id c)→x.lt c sz K tm h→∀dfs ρ a w,cG dfs ρ tm sz h.nx a→aL ρ h w→(Code.block x.id c).wp P (gy dfs ρ h sz K) a w
def jl(l:List Cg):fl:=⟨zu l,fun _=>false,fun _ _=>none⟩
theorem w6{P:Program}{l:List Cg}(h:∀x∈l,x.Ok P):cZ P (jl l):=by
 intro f id lt hl;change zu l f id=some lt at hl;revert hl
 induction l with
 |nil=>intro hl;cases hl
 |cons x xs ih=>
  intro hl;simp only [zu]at hl
  cases hb:Nat.beq f x.f&&Nat.beq id x.id with
  |false=>rw [hb]at hl;exact ih (fun y hy=>h y (List.mem_cons_of_mem _ hy)) hl
  |true=>
   rw [hb]at hl;simp only [Bool.and_eq_true]at hb;simp only [cond_true,Option.some.injEq]at hl;subst hl;have e1:=Nat.eq_of_beq_eq_true hb.1;have e2:=Nat.eq_of_beq_eq_true hb.2;subst e1;subst e2
   exact h x List.mem_cons_self
def loopE(P:Program)(C:FuncId→Option CT)(Λ:fl)(n:Nat)(f:FuncId)(id:Nat):Cg:=⟨f,id,x8 P C Λ n f id⟩
theorem DK{P:Program}(hm:P.follows .mixedOrders=true){C:FuncId→Option CT}(hC:aI P C){Λ:fl}(hΛ:cZ P Λ)(n:Nat)(f:FuncId)(id:Nat):(loopE P C Λ n f id).Ok P:=
 fun _ _ _ _ _ hW hk _ _ _ _ A R=>tQ hm hC hΛ n f id hW hk A R
def ic(P:Program)(C:FuncId→Option CT)(Λ:fl)(n:Nat)(l:List (FuncId×Nat)):fl:=jl (l.map fun x=>loopE P C Λ n x.1 x.2)
theorem bg{P:Program}(hm:P.follows .mixedOrders=true){C:FuncId→Option CT}(hC:aI P C){Λ:fl}(hΛ:cZ P Λ)(n:Nat)(l:List (FuncId×Nat)):cZ P (ic P C Λ n l):=
 w6 fun x hx=>by
  obtain⟨y,_,rfl⟩:=List.mem_map.1 hx;exact DK hm hC hΛ n y.1 y.2
structure E4 where
 f:FuncId
 ct:CT
def bQ(l:List E4)(C:FuncId→Option CT):FuncId→Option CT:=fun f=>match l with
 | []=>C f
 |x::xs=>bif Nat.beq f x.f then some x.ct else bQ xs C f
def E4.Ok(P:Program)(x:E4):Prop:=∀args h K,x.ct args h K→∀ρ w,aL ρ h w→(∀x∈args,x.lt ρ h.nx)→db P x.f (args.map (SV.den ρ)).toArray w (cT ρ h K) fun _ _=>False
theorem aD{P:Program}{C:FuncId→Option CT}(hC:aI P C):∀ {l:List E4},(∀x∈l,x.Ok P)→aI P (bQ l C)
 | [],_=>hC
 |x::xs,h=>by
  intro f ct hf;simp only [bQ]at hf
  cases hb:Nat.beq f x.f with
  |false=>rw [hb]at hf;exact aD hC (fun y hy=>h y (List.mem_cons_of_mem _ hy)) f ct hf
  |true=>
   rw [hb]at hf;simp only [cond_true,Option.some.injEq]at hf;subst hf;have e1:=Nat.eq_of_beq_eq_true hb;subst e1;exact h x List.mem_cons_self
def aM(f:FuncId)(S:aY):E4:=⟨f,ctS S⟩
theorem au{P:Program}{f:FuncId}{S:aY}(h:FOk P f S):(aM f S).Ok P:=fun _ _ _ hk _ _ R _=>Es h hk R
theorem bw{t:Bool}{A B:Bool}(h1:t=true→A=true)(h2:t=false→B=true):(bif t then A else B)=true:=by
 cases t
 ·exact h2 rfl
 ·exact h1 rfl
theorem af{p:Prop}{i:Decidable p}{A B:Bool}(h1:p→A=true)(h2:¬p→B=true):(bif decide p then A else B)=true:=by
 by_cases h:p
 ·rw [decide_eq_true h];exact h1 h
 ·rw [decide_eq_false h];exact h2 h
theorem jY{n:Int}{l:Nat}{A B:Bool}(h1:0≤n→n<l→A=true)(h2:¬(0≤n∧n<l)→B=true):(bif eG n l then A else B)=true:=by
 by_cases h:0≤n∧n<l
 ·rw [eO.2 h];exact h1 h.1 h.2
 ·have:eG n l=false:=by
    cases hb:eG n l with
    |false=>rfl
    |true=>exact absurd (eO.1 hb) h
  rw [this];exact h2 h
theorem gB{t:Bool}{A B:Bool}(h:t=true)(h1:A=true):(bif t then A else B)=true:=by rw [h];exact h1
theorem fJ{p:Prop}{i:Decidable p}{A B:Bool}(h:p)(h1:A=true):(bif decide p then A else B)=true:=by rw [decide_eq_true h];exact h1
theorem no_dec{p:Prop}{i:Decidable p}{A B:Bool}(h:¬p)(h1:B=true):(bif decide p then A else B)=true:=by rw [decide_eq_false h];exact h1
theorem cO{n:Int}{l:Nat}{A B:Bool}(h:0≤n∧n<l)(h1:A=true):(bif eG n l then A else B)=true:=by rw [eO.2 h];exact h1
theorem aj{D:Prop→Bool}(hD:∀p,D p=true↔p){p:Prop}{A B:Bool}(hp:p)(h1:A=true):(bif D p then A else B)=true:=by rw [(hD p).2 hp];exact h1
theorem cW{r:Option (Option Value)}{v:Option Value}{F:Option Value→Bool}(h:r=some v)(h1:F v=true):lkK r F=true:=by rw [h];exact h1
theorem go_by{r:Option (List UInt8)}{l:List UInt8}{F:List UInt8→Bool}(h:r=some l)(h1:F l=true):byK r F=true:=by rw [h];exact h1
theorem re:∀(l:List UInt8),ff (l.map fun b=>Value.int .u8 b.toNat)=some l
 | []=>rfl
 |b::l=>by
  simp only [List.map_cons,ff,re l,Int.toNat_natCast];rw [UInt8.ofNat_toNat]
theorem ai{r:Option (List Value)}{vs:List Value}{F:List Value→Bool}(h:r=some vs)(h1:F vs=true):rdK r F=true:=by rw [h];exact h1
end
end Go.Sx
namespace Go.Sx
noncomputable section
def aa.Sub(B A:aa):Prop:=∀k o,B.blk k=some o→A.blk k=some o
theorem aa.Sub.refl(A:aa):A.Sub A:=fun _ _ h=>h
theorem aa.Sub.trans{A B C:aa}(h:A.Sub B)(k:B.Sub C):A.Sub C:=fun i o ho=>k i o (h i o ho)
theorem rd_mk{A:aa}{g o n:Nat}{c:Array Value}{t:TypeId}{fz:Nat×Nat}(h:A.blk g=some (.cells c t fz))(hle:o+n≤c.size):A.rd g o n=some ((c.toList.drop o).take n):=by
 rw [A.rdeq];unfold xz;rw [h];simp only;rw [if_pos hle]
theorem bI{A B:aa}(h:B.Sub A){g o n:Nat}{vs:List Value}(hr:B.rd g o n=some vs):A.rd g o n=some vs:=by
 obtain⟨c,t,fz,hb,hle,rfl⟩:=rd_some hr;exact rd_mk (h _ _ hb) hle
theorem ir{A:aa}{g o N i m:Nat}{cs:List Value}(h:A.rd g o N=some cs)(hi:i+m≤N):A.rd g (o+i) m=some ((cs.drop i).take m):=by
 obtain⟨c,t,fz,hb,hle,rfl⟩:=rd_some h;rw [rd_mk hb (by omega)];congr 1;rw [List.drop_take,List.take_take,List.drop_drop];congr 1;omega
def aa.minus(A' A:aa):aa:=aa.of fun k=>match A.blk k with
 |none=>A'.blk k
 |some _=>none
theorem cj{A A':aa}{k:Nat}{o:Obj}(h:(A'.minus A).blk k=some o):A.blk k=none∧A'.blk k=some o:=by
 have h:(match A.blk k with
  |none=>A'.blk k
  |some _=>none)=some o:=h
 split at h
 ·exact⟨by assumption,h⟩
 ·cases h
theorem ku{A A':aa}{k:Nat}{o:Obj}(h1:A.blk k=none)(h2:A'.blk k=some o):(A'.minus A).blk k=some o:=by
 show(match A.blk k with
  |none=>A'.blk k
  |some _=>none)=some o
 rw [h1];exact h2
theorem bk(A A':aa):(A'.minus A).Sub A':=fun _ _ h=>(cj h).2
theorem eJ{A:aa}{k:Nat}{o:Obj}(A':aa)(h:A.blk k=some o):(A'.minus A).blk k=none:=by
 show(match A.blk k with
  |none=>A'.blk k
  |some _=>none)=none
 rw [h]
theorem iU{A A':aa}{g o n:Nat}{vs:List Value}(h:A'.rd g o n=some vs)(hg:A.blk g=none):(A'.minus A).rd g o n=some vs:=by
 obtain⟨c,t,fz,hb,hle,rfl⟩:=rd_some h;exact rd_mk (ku hg hb) hle
theorem oJ{A A1 A2:aa}(h:A.Sub A1):(A2.minus A1).Sub (A2.minus A):=fun k o hk=>by
 obtain⟨h1,h2⟩:=cj hk;refine ku ?_ h2
 cases hA:A.blk k with
 |none=>rfl
 |some o'=>rw [h _ _ hA]at h1;cases h1
theorem aa.New.sub{A A':aa}{g:Nat}{c:Array Value}{t:TypeId}(h:A.New A' g c t):A.Sub A':=fun k o hk=>by
 rw [h.other k (fun e=>by subst e;rw [h.none_]at hk;cases hk)];exact hk
theorem aa.New.rd{A A':aa}{g:Nat}{c:Array Value}{t:TypeId}(h:A.New A' g c t){o n:Nat}(hle:o+n≤c.size):A'.rd g o n=some ((c.toList.drop o).take n):=rd_mk h.at_ hle
theorem aa.Put.sub{A A' B:aa}{g o:Nat}{vs:List Value}(h:A.Put A' g o vs)(hB:B.Sub A)(hg:B.blk g=none):B.Sub A':=fun k ob hk=>by
 rw [h.other k (fun e=>by subst e;rw [hg]at hk;cases hk)];exact hB k ob hk
theorem aa.Put.dom{A A':aa}{g o:Nat}{vs:List Value}(h:A.Put A' g o vs)(k:Nat):A'.blk k=none↔A.blk k=none:=by
 by_cases e:k=g
 ·subst e
  obtain⟨c,t,fz,c',h1,h2,_⟩:=h.at_;rw [h1,h2];simp
 ·rw [h.other k e]
def Sl(A:aa)(es n:Nat)(v:Value)(cs:List Value):Prop:=
 ∃ao c,v= .slice ao n c∧n≤c∧cs.length=n*es∧(ao=none→c=0)∧(∀a,ao=some a→0<c→a.spot=none)∧(0<n→∀a,ao=some a→A.rd a.block a.off (n*es)=some cs)
theorem Sl.at_{A:aa}{es n c:Nat}{ao:Option Addr}{cs:List Value}(h0:n≤c)(h1:ao=none→c=0)(h2:∀a,ao=some a→0<c→a.spot=none)(h3:0<n→∀a,ao=some a→A.rd a.block a.off (n*es)=some cs)(hn:0<n):
  ∃g o,ao=some ⟨g,o,none⟩∧A.rd g o (n*es)=some cs:=by
 cases ao with
 |none=>have:=h1 rfl;omega
 |some a=>
  obtain⟨g,o,t⟩:=a;have h4:=h2 _ rfl (by omega);simp only at h4;subst h4;exact⟨g,o,rfl,h3 hn _ rfl⟩
theorem Sl.sub{A B:aa}(h:B.Sub A){es n:Nat}{v:Value}{cs:List Value}(hs:Sl B es n v cs):Sl A es n v cs:=by
 obtain⟨ao,c,h1,h2,h3,h4,h5,h6⟩:=hs;exact⟨ao,c,h1,h2,h3,h4,h5,fun hn a ha=>bI h (h6 hn a ha)⟩
theorem Sl.nil(A:aa)(es:Nat):Sl A es 0 (.slice none 0 0) []:=
 ⟨none,0,rfl,Nat.le_refl _,(by simp),fun _=>rfl,fun a h=>(by cases h),fun h=>(by omega)⟩
theorem Sl.zero(A:aa)(es:Nat){ao:Option Addr}{c:Nat}(h1:ao=none→c=0)(h2:∀a,ao=some a→0<c→a.spot=none):Sl A es 0 (.slice ao 0 c) []:=
 ⟨ao,c,rfl,Nat.zero_le _,(by simp),h1,h2,fun h=>(by omega)⟩
theorem Sl.row{A:aa}{es n g o c:Nat}{cs:List Value}(hc:n≤c)(h:A.rd g o (n*es)=some cs):Sl A es n (.slice (some ⟨g,o,none⟩) n c) cs:=
 ⟨_,c,rfl,hc,tw h,fun h=>(by cases h),fun a h _=>(by injection h with h;subst h;rfl),fun _ a ha=>(by injection ha with ha;subst ha;exact h)⟩
theorem Sl.form{A:aa}{es n:Nat}{v:Value}{cs:List Value}(h:Sl A es n v cs):∃ao c,v= .slice ao n c:=by
 obtain⟨ao,c,h,_⟩:=h;exact⟨ao,c,h⟩
def bv(b:UInt8):Value:= .int .u8 b.toNat
def SlB(A:aa)(v:Value)(bs:List UInt8):Prop:=Sl A 1 bs.length v (bs.map bv)∧bs.length≤140737488351232
theorem SlB.sub{A B:aa}(h:B.Sub A){v:Value}{bs:List UInt8}(hs:SlB B v bs):SlB A v bs:=⟨hs.1.sub h,hs.2⟩
theorem jD{A:aa}{g o n:Nat}{bs:List UInt8}(h:A.rd g o (n*1)=some (bs.map bv))(k:Nat)(hk:k<bs.length)(hn:n=bs.length):A.rd g (o+k*1) 1=some [bv bs[k]]:=by
 have:=ir (i:=k) (m:=1) h (by omega);rw [Nat.mul_one,this];congr 1;rw [List.drop_eq_getElem_cons (by simpa using hk)];simp [bv]
theorem tp{A:aa}{g o n es:Nat}{rows:List (List Value)}(h:A.rd g o (n*es)=some rows.flatten)(hes:∀r∈rows,r.length=es)(k:Nat)(hk:k<rows.length)(hn:n=rows.length):A.rd g (o+k*es) es=some rows[k]:=by
 subst hn
 have hle:k*es+es≤rows.length*es:=by
  have:=Nat.mul_le_mul_right es hk
  rwa [Nat.succ_mul]at this
 rw [ir h hle];congr 1
 have key:∀(l:List (List Value)) (k:Nat) (hk:k<l.length),(∀r∈l,r.length=es)→(l.flatten.drop (k*es)).take es=l[k]:=by
  intro l
  induction l with
  |nil=>intro k hk;simp at hk
  |cons r l ih=>
   intro k hk hes;have hr:=hes r (by simp)
   cases k with
   |zero=>simp [←hr]
   |succ k=>
    rw [List.flatten_cons,List.drop_append,List.drop_eq_nil_of_le (by rw [hr,Nat.succ_mul];omega),List.nil_append];rw [show(k+1)*es-r.length=k*es by rw [hr,Nat.succ_mul];omega];simpa using ih k (by simpa using hk) (fun r' h'=>hes r' (List.mem_cons_of_mem _ h'))
 exact key rows k hk hes
theorem BV{A A1 A2:aa}{base:Option (Nat×Nat)}{es n:Nat}{e:TypeId}{ys:List Value}{v:Value}(h1:A.Sub A1)(ha:jk A1 base 0 0 es e [] ys n v A2)(hl:ys.length=n*es):A.Sub A2∧Sl (A2.minus A) es n v ys:=by
 rcases ha with⟨h0,rfl,h3⟩|⟨h0,g,nc,cs,zs,rfl,hn,hcs,_,hN⟩
 ·have hn:n=0:=by omega
  subst hn;have:ys= []:=List.length_eq_zero_iff.1 (by rw [hl];simp);subst this;refine⟨?_,?_⟩
  ·rcases h3 with⟨_,rfl⟩|⟨g,o,hb,hP⟩
   ·exact h1
   ·intro k o' hk
    by_cases e:k=g
    ·subst e
     obtain⟨c,t,fz,c',k1,k2,k3⟩:=hP.at_;have hcc:c'=c:=Array.toList_inj.1 (by rw [k3];simp);have:=h1 _ _ hk;rw [k1]at this;rw [k2,hcc];exact this
    ·rw [hP.other k e];exact h1 _ _ hk
  ·exact Sl.zero _ _ (fun _=>rfl) (fun a ha _=>by
    cases base with
    |none=>cases ha
    |some go=>injection ha with ha;subst ha;rfl)
 ·have hs:=h1.trans hN.sub
  refine⟨hs,?_⟩
  have hg:A.blk g=none:=by
   cases hA:A.blk g with
   |none=>rfl
   |some o=>have:=h1 _ _ hA;rw [hN.none_]at this;cases this
  rw [Nat.zero_add]at hn ⊢;refine Sl.row hn ?_;have hsz:cs.size=ys.length+zs.length:=by rw [←Array.length_toList,hcs];simp
  refine iU ?_ hg;rw [hN.rd (by omega),hcs];simp [hl]
theorem plain_v(v:Value):qh (.v v)=some v:=rfl
theorem ny:∀(vs:List Value),iu (vs.map SV.v)=some vs
 | []=>rfl
 |v::vs=>by simp only [List.map_cons,iu,plain_v,ny vs]
theorem bG{P:Program}(hm:P.follows .mixedOrders=true){f:FuncId}{S:aY}
  (hr:∀g vs A,S.pre g vs A→∃C Λ n,aI P C∧cZ P Λ∧Run P C Λ n f (vs.map SV.v) A (mU S g vs A)):FOk P f S:=
 yp hm fun g vs A hp=>by
  obtain⟨C,Λ,n,h1,h2,h3⟩:=hr g vs A hp;exact⟨C,Λ,n,_,h1,h2,ny vs,fun ρ x hx=>by obtain⟨v,_,rfl⟩:=List.mem_map.1 hx;trivial,h3⟩
theorem oO{P:Program}(hm:P.follows .mixedOrders=true){f:FuncId}{S:aY}(al:TypeId→Bool)
  (hr:∀g vs A,S.pre g vs A→∃C Λ n,aI P C∧cZ P Λ∧Run P C Λ n f (vs.map SV.v) A (mU S g vs A) al):FOk P f S:=
 qQ hm (fun _ _ _ _ _ h=>wg h) al fun g vs A hp=>by
  obtain⟨C,Λ,n,h1,h2,h3⟩:=hr g vs A hp;exact⟨C,Λ,n,_,h1,h2,ny vs,fun ρ x hx=>by obtain⟨v,_,rfl⟩:=List.mem_map.1 hx;trivial,h3⟩
theorem lt1(x:SV)(h:∀ρ n,x.lt ρ n):∀(ρ:Nat→Loc),∀z∈ [x],z.lt ρ 0:=fun _ z hz=>by
 simp only [List.mem_singleton]at hz;subst hz;exact h _ _
end
end Go.Sx
namespace Go.Proofs.YtmmlhdiejkknnaaGreatDoor
open Go.Sx Go.RowKit
noncomputable section
open Classical
theorem yZ{n:Int}(h0: -9223372036854775808≤n)(h1:n≤9223372036854775807):IntKind.i64.wrap n=n:=by
 simp only [IntKind.wrap,IntKind.bits,IntKind.signed];simp;omega
theorem dS{p:Prop}{i:Decidable p}{A B:Bool}(h1:p→B=true)(h2:¬p→A=true):(bif !(decide p)then A else B)=true:=by
 by_cases h:p
 ·rw [decide_eq_true h];exact h1 h
 ·rw [decide_eq_false h];exact h2 h
theorem mixed:Tryz.prog.follows .mixedOrders=true:=by kernel_rfl
def cnt(A:aa)(s:Nat)(ck keepB:List Nat)(n:Nat)(p:Nat→Prop):fj:= { γ:=Nat,G:=fun k=>k≤n∧p k,keepS:=ck,keepB:=keepB,sl:=fun k=> [(s,.v (.int .i64 k))],bl:=fun _=> [],ar:=fun _=>A,mu:=fun k=>n-k }
theorem bf{k:Nat}(h:k<9223372036854775807):some (SV.v (.int .i64 (IntKind.i64.wrap ((k:Int)+1))))=some (SV.v (.int .i64 ((k+1:Nat):Int))):=by
 rw [Sx.wrap_i64 (by omega) (by omega)];rfl
theorem bu{l m:List UInt8} :jU l m=true↔l=m:=by rw [iB];simp
theorem cr{l m:List UInt8} :jU l m=false↔¬l=m:=by rw [←bu];simp
theorem eE{P:Program}{f:FuncId}{args:Array Value}{w:World}{Φ:Value→World→Prop}{fn:Func}(hf:P.funcs[f]? =some fn)(h1:(fn.name== "runtime.NumGoroutine")=false∧fn.body.isNone=false)
  (h:Calls P f args w fun e w'=>∃v,e= .returned v∧Φ v w'):db P f args w Φ fun _ _=>False:=by
 refine .inl ⟨fn,hf,h1,fun cs=> ?_⟩;obtain⟨e,w',fr,k1,k2⟩:=h cs;exact⟨e,w',fr,.inl k1,k2⟩
end
end Go.Proofs.YtmmlhdiejkknnaaGreatDoor
namespace Go.Sx
noncomputable section
section
variable {κ α β : Type} [BEq κ]
def aG(p:κ):List (κ×α)→Option α
 | []=>none
 |e::es=>bif p==e.1 then some e.2 else aG p es
def bS(p:κ)(x:α):List (κ×α)→List (κ×α)
 | []=> [(p,x)]
 |e::es=>bif p==e.1 then(p,x)::es else e::bS p x es
def dQ(p:κ):List (κ×α)→List (κ×α)
 | []=> []
 |e::es=>bif p==e.1 then es else e::dQ p es
def dI(p:κ)(f:α→α):List (κ×α)→List (κ×α)
 | []=> []
 |e::es=>bif p==e.1 then(e.1,f e.2)::es else e::dI p f es
def dX(f:α→β)(l:List (κ×α)):List (κ×β):=l.map fun e=>(e.1,f e.2)
theorem kD(f:α→β)(p:κ):∀l:List (κ×α),aG p (dX f l)=(aG p l).map f
 | []=>rfl
 |e::es=>by
  have:=kD f p es;simp only [dX,List.map_cons,aG]at this ⊢
  cases hb:p==e.1<;>simp only [cond_true,cond_false,this,Option.map_some]
theorem qF(f:α→β)(p:κ)(x:α):∀l:List (κ×α),bS p (f x) (dX f l)=dX f (bS p x l)
 | []=>rfl
 |e::es=>by
  have:=qF f p x es;simp only [dX,List.map_cons,bS]at this ⊢
  cases hb:p==e.1<;>simp only [cond_true,cond_false,this,List.map_cons]
theorem qI(f:α→β)(p:κ):∀l:List (κ×α),dQ p (dX f l)=dX f (dQ p l)
 | []=>rfl
 |e::es=>by
  have:=qI f p es;simp only [dX,List.map_cons,dQ]at this ⊢
  cases hb:p==e.1<;>simp only [cond_true,cond_false,this,List.map_cons]
theorem vK(f:α→β)(h:α→α)(h':β→β)(hh:∀x,h' (f x)=f (h x))(p:κ):∀l:List (κ×α),dI p h' (dX f l)=dX f (dI p h l)
 | []=>rfl
 |e::es=>by
  have:=vK f h h' hh p es;simp only [dX,List.map_cons,dI]at this ⊢
  cases hb:p==e.1<;>simp only [cond_true,cond_false,this,List.map_cons,hh]
theorem gV{p:κ}{x:α}(hq:∀q:κ,(p==q)=true→q=p):∀ {l:List (κ×α)},aG p l=some x→(p,x)∈l
 | [],h=>by cases h
 |e::es,h=>by
  simp only [aG]at h
  cases hb:p==e.1 with
  |true=>
   rw [hb]at h;injection h with h
   rw [←hq _ hb,←h];exact List.mem_cons_self
  |false=>rw [hb]at h;exact List.mem_cons_of_mem _ (gV hq h)
theorem gI{p:κ}(hr:(p==p)=true):∀ {l:List (κ×α)},aG p l=none→p∉l.map (·.1)
 | [],_=>by simp
 |e::es,h=>by
  simp only [aG]at h
  cases hb:p==e.1 with
  |true=>rw [hb]at h;cases h
  |false=>
   rw [hb]at h;have:=gI hr (l:=es) h;simp only [List.map_cons,List.mem_cons,not_or];exact⟨fun e'=>(by rw [←e',hr]at hb;cases hb),this⟩
theorem lb{p:κ}{x:α} :∀ {l:List (κ×α)},aG p l=none→bS p x l=l++ [(p,x)]
 | [],_=>rfl
 |e::es,h=>by
  simp only [aG]at h
  cases hb:p==e.1 with
  |true=>rw [hb]at h;cases h
  |false=>rw [hb]at h;simp only [bS,hb,cond_false,lb (l:=es) h,List.cons_append]
theorem nJ{p:κ}{f:α→α} :∀ {l:List (κ×α)},aG p l=none→dI p f l=l
 | [],_=>rfl
 |e::es,h=>by
  simp only [aG]at h
  cases hb:p==e.1 with
  |true=>rw [hb]at h;cases h
  |false=>rw [hb]at h;simp only [dI,hb,cond_false,nJ (l:=es) h]
theorem tU{p:κ}{f:α→α}{x:α} :∀ {l:List (κ×α)},aG p l=some x→dI p (fun _=>f x) l=dI p f l
 | [],h=>by cases h
 |e::es,h=>by
  simp only [aG]at h
  cases hb:p==e.1 with
  |true=>
   rw [hb]at h;injection h with h
   simp only [dI,hb,cond_true,h]
  |false=>rw [hb]at h;simp only [dI,hb,cond_false,tU (l:=es) h]
theorem gT{p:κ}{x:α}(hq:∀q:κ,(p==q)=true→q=p):∀ {l:List (κ×α)},aG p l=some x→∃a b,l=a++(p,x)::b∧aG p a=none∧(∀y,bS p y l=a++(p,y)::b)∧dQ p l=a++b∧∀f,dI p f l=a++(p,f x)::b
 | [],h=>by cases h
 |e::es,h=>by
  simp only [aG]at h
  cases hb:p==e.1 with
  |true=>
   rw [hb]at h;injection h with h
   have h1:=hq _ hb;obtain⟨k,v⟩:=e;simp only at h h1 hb;subst h h1;exact⟨[],es,rfl,rfl,fun y=>(by simp only [bS,hb,cond_true,List.nil_append]),(by simp only [dQ,hb,cond_true,List.nil_append]),fun f=>(by simp only [dI,hb,cond_true,List.nil_append])⟩
  |false=>
   rw [hb]at h;obtain⟨a,b,h1,h2,h3,h4,h5⟩:=gT hq (l:=es) h;exact⟨e::a,b,(by rw [h1];rfl),(by simp only [aG,hb,cond_false,h2]),fun y=>(by simp only [bS,hb,cond_false,h3,List.cons_append]),(by simp only [dQ,hb,cond_false,h4,List.cons_append]),fun f=>(by simp only [dI,hb,cond_false,h5,List.cons_append])⟩
end
theorem kJ(a:ByteArray):(a==a)=true:=by rw [beq_toListBytes];simp
theorem en(p:ByteArray):∀q:ByteArray,(p==q)=true→q=p:=fun _ h=>(bytes_beq h).symm
theorem zB(p:Int):∀q:Int,(p==q)=true→q=p:=fun _ h=>(eq_of_beq h).symm
section
variable {α:Type} (f:α→Value)
def gd(l:List (ByteArray×α)):List (Value×Value):=l.map fun e=>(.string e.1,f e.2)
def iG(l:List (Int×α)):List (Value×Value):=l.map fun e=>(.int .i64 e.1,f e.2)
theorem fy(p:ByteArray)(l:List (ByteArray×α)):∀e∈gd f l,cI (.string p) e.1=true:=fun e he=>by
 obtain⟨x,_,rfl⟩:=List.mem_map.1 he;rfl
theorem cN(p:Int)(l:List (Int×α)):∀e∈iG f l,cI (.int .i64 p) e.1=true:=fun e he=>by
 obtain⟨x,_,rfl⟩:=List.mem_map.1 he;rfl
theorem uJ(p:ByteArray):∀l:List (ByteArray×α),ig (.string p) (gd f l)=(aG p l).map f
 | []=>rfl
 |e::es=>by
  have:=uJ p es;simp only [gd,List.map_cons,ig,aG,ft]at this ⊢
  cases hb:p==e.1<;>simp only [cond_true,cond_false,this,Option.map_some]
theorem mn(p:ByteArray)(x:α):∀l:List (ByteArray×α),dV (.string p) (f x) (gd f l)=gd f (bS p x l)
 | []=>rfl
 |e::es=>by
  have:=mn p x es;simp only [gd,List.map_cons,dV,bS,ft]at this ⊢
  cases hb:p==e.1<;>simp only [cond_true,cond_false,this,List.map_cons]
theorem uK(p:ByteArray):∀l:List (ByteArray×α),gp (.string p) (gd f l)=gd f (dQ p l)
 | []=>rfl
 |e::es=>by
  have:=uK p es;simp only [gd,List.map_cons,gp,dQ,ft]at this ⊢
  cases hb:p==e.1<;>simp only [cond_true,cond_false,this,List.map_cons]
theorem vP(p:Int):∀l:List (Int×α),ig (.int .i64 p) (iG f l)=(aG p l).map f
 | []=>rfl
 |e::es=>by
  have:=vP p es;simp only [iG,List.map_cons,ig,aG,ft]at this ⊢
  cases hb:p==e.1<;>simp only [cond_true,cond_false,this,Option.map_some]
theorem eD(p:Int)(x:α):∀l:List (Int×α),dV (.int .i64 p) (f x) (iG f l)=iG f (bS p x l)
 | []=>rfl
 |e::es=>by
  have:=eD p x es;simp only [iG,List.map_cons,dV,bS,ft]at this ⊢
  cases hb:p==e.1<;>simp only [cond_true,cond_false,this,List.map_cons]
theorem vQ(p:Int):∀l:List (Int×α),gp (.int .i64 p) (iG f l)=iG f (dQ p l)
 | []=>rfl
 |e::es=>by
  have:=vQ p es;simp only [iG,List.map_cons,gp,dQ,ft]at this ⊢
  cases hb:p==e.1<;>simp only [cond_true,cond_false,this,List.map_cons]
end
theorem kB{A:aa}{m:Nat}{α:Type}{f:α→Value}{l:List (ByteArray×α)}(h:bH A m (gd f l))(p:ByteArray):A.look m (.string p)=some ((aG p l).map f):=by
 rw [zt h (fy f p l),uJ]
theorem bL{A:aa}{m:Nat}{α:Type}{f:α→Value}{l:List (Int×α)}(h:bH A m (iG f l))(p:Int):A.look m (.int .i64 p)=some ((aG p l).map f):=by
 rw [zt h (cN f p l),vP]
def aE(A:aa)(g:Nat)(L:List Value):Prop:=∃c t fz,A.blk g=some (.cells c t fz)∧Fz c.size fz∧c.toList=L
theorem aE.rd{A:aa}{g:Nat}{L:List Value}(h:aE A g L){o n:Nat}(hle:o+n≤L.length):A.rd g o n=some ((L.drop o).take n):=by
 obtain⟨c,t,fz,h1,_,rfl⟩:=h;exact rd_mk h1 (by simpa using hle)
theorem aE.room{A:aa}{g:Nat}{L:List Value}(h:aE A g L){o n:Nat}(hle:o+n≤L.length):A.Room g o n:=by
 obtain⟨c,t,fz,h1,h2,rfl⟩:=h;exact⟨c,t,fz,h1,by simpa using hle,h2⟩
theorem aE.put{A A':aa}{g o:Nat}{L vs:List Value}(h:aE A g L)(hP:A.Put A' g o vs)(hle:o+vs.length≤L.length):aE A' g (L.take o++vs++L.drop (o+vs.length)):=by
 obtain⟨c,t,fz,h1,h2,rfl⟩:=h;obtain⟨c0,t0,fz0,c1,e1,e2,e3⟩:=hP.at_;rw [h1]at e1;injection e1 with e1
 injection e1 with e1 e4 e5
 subst e1 e4 e5;refine⟨c1,t,fz,e2,?_,e3⟩
 have:c1.size=c.size:=by
  have hl:c1.toList.length=c.toList.length:=by
   rw [e3];simp only [Array.length_toList]at hle;simp;omega
  simpa using hl
 rw [this];exact h2
theorem aE.sub{A A':aa}{g:Nat}{L:List Value}(h:aE A g L)(hs:∀o,A.blk g=some o→A'.blk g=some o):aE A' g L:=by
 obtain⟨c,t,fz,h1,h2⟩:=h;exact⟨c,t,fz,hs _ h1,h2⟩
theorem aE.new{A A':aa}{g:Nat}{c:Array Value}{t:TypeId}(h:A.New A' g c t):aE A' g c.toList:=⟨c,t,(0,0),h.at_,.inl rfl,rfl⟩
theorem aE.dom{A:aa}{g:Nat}{L:List Value}(h:aE A g L):∃o,A.blk g=some o:=by
 obtain⟨c,t,fz,h1,_⟩:=h;exact⟨_,h1⟩
def aa.plus(B C:aa):aa:=aa.of fun k=>match B.blk k with
 |some o=>some o
 |none=>C.blk k
theorem kk(B C:aa)(k:Nat):(B.plus C).blk k=match B.blk k with
 |some o=>some o
 |none=>C.blk k:=rfl
theorem qe(B C:aa):B.Sub (B.plus C):=fun k o h=>by rw [kk,h]
theorem xH{B C:aa}(h:∀k o,C.blk k=some o→B.blk k=none):C.Sub (B.plus C):=fun k o hk=>by rw [kk,h k o hk];exact hk
theorem fC{B C:aa}{k:Nat}{o:Obj}(h:(B.plus C).blk k=some o):B.blk k=some o∨(B.blk k=none∧C.blk k=some o):=by
 rw [kk]at h
 split at h
 ·left;rw [←h];assumption
 ·right;exact⟨by assumption,h⟩
theorem oK{A A' B:aa}(h:B.Sub A):∀k o,(A'.minus A).blk k=some o→B.blk k=none:=fun k o hk=>by
 cases hB:B.blk k with
 |none=>rfl
 |some o'=>
  have:=(cj hk).1;rw [h _ _ hB]at this;cases this
end
end Go.Sx
namespace Go.Sx
noncomputable section
structure ec where
 czxid:Int
 mzxid:Int
 pzxid:Int
 ctime:Int
 mtime:Int
 ver:Int
 cver:Int
 owner:Int
 len:Int
 kids:Int
def ec.cells(s:ec):List Value:= [.int .i64 s.czxid,.int .i64 s.mzxid,.int .i64 s.pzxid,.int .i64 s.ctime,.int .i64 s.mtime,.int .i64 s.ver,.int .i64 s.cver,.int .i64 s.owner,.int .i64 s.len,.int .i64 s.kids]
structure aX where
 data:List UInt8
 stat:ec
structure bn where
 ses:Int
 tmo:Int
 turn:Int
structure aF where
 nodes:List (ByteArray×aX)
 seats:List (Int×bn)
def iV(g:Nat):Value:= .pointer (some ⟨g,0,none⟩)
def eh(s:bn):Value:= .agg #[.int .i64 s.ses,.int .i64 s.tmo,.int .i64 s.turn]
def ma(A B:aa)(g:Nat)(n:aX):Prop:=∃v,aE A g (v::n.stat.cells)∧SlB B v n.data
structure cF(A B:aa)(O:Nat→Prop)(t:Nat)(T:aF)(m s:Nat)(E:List (ByteArray×Nat×aX)):Prop where
 nodes:T.nodes=dX (·.2) E
 top:aE A t [.map (some m),.map (some s)]
 nmap:bH A m (gd iV (dX (·.1) E))
 smap:bH A s (iG eh T.seats)
 cells:∀e∈E,ma A B e.2.1 e.2.2
 keys:(E.map (·.1)).Nodup
 ptrs:(E.map (·.2.1)).Nodup
 skeys:(T.seats.map (·.1)).Nodup
 sub:B.Sub A
 own:O t∧O m∧O s∧∀e∈E,O e.2.1
 off:∀k,O k→B.blk k=none
 live:∀k,O k→∃o,A.blk k=some o
 ne:m≠s∧∀e∈E,e.2.1≠t
def ba(A B:aa)(O:Nat→Prop)(t:Nat)(T:aF):Prop:=∃m s E,cF A B O t T m s E
structure Step(A B:aa)(O:Nat→Prop)(A' B':aa)(O':Nat→Prop):Prop where
 ck:∀k o,A.blk k=some o→¬O k→A'.blk k=some o
 dom:∀k,A'.blk k=none→A.blk k=none
 own:∀k,O' k→O k∨A.blk k=none
 sub:B.Sub B'
 new:∀k o,B'.blk k=some o→B.blk k=some o∨A.blk k=none
theorem Step.refl(A B:aa)(O:Nat→Prop):Step A B O A B O:=⟨fun _ _ h _=>h,fun _ h=>h,fun _ h=> .inl h,aa.Sub.refl _,fun _ _ h=> .inl h⟩
theorem Step.trans{A B A1 B1 A2 B2:aa}{O O1 O2:Nat→Prop}(h:Step A B O A1 B1 O1)(k:Step A1 B1 O1 A2 B2 O2):Step A B O A2 B2 O2:=by
 refine⟨fun j o hj hO=>k.ck j o (h.ck j o hj hO) fun h1=> ?_,fun j hj=>h.dom j (k.dom j hj),fun j hj=> ?_,h.sub.trans k.sub,fun j o hj=> ?_⟩
 ·rcases h.own j h1 with h2|h2
  ·exact hO h2
  ·rw [hj]at h2;cases h2
 ·rcases k.own j hj with h1|h1
  ·exact h.own j h1
  ·exact .inr (h.dom j h1)
 ·rcases k.new j o hj with h1|h1
  ·exact h.new j o h1
  ·exact .inr (h.dom j h1)
theorem Step.stays{A B A' B' C:aa}{O O':Nat→Prop}(h:Step A B O A' B' O')(hC:C.Sub A)(hO:∀k o,C.blk k=some o→¬O k):C.Sub A':=fun k o hk=>h.ck k o (hC k o hk) (hO k o hk)
theorem ma.mono{A A' B B':aa}{g:Nat}{n:aX}(h:ma A B g n)(hg:A'.blk g=A.blk g)(hB:B.Sub B'):ma A' B' g n:=by
 obtain⟨v,h1,h2⟩:=h;exact⟨v,h1.sub fun o ho=>by rw [hg];exact ho,h2.sub hB⟩
theorem Bl{κ α β:Type}(f:α→β)(l:List (κ×α)):(dX f l).map (·.1)=l.map (·.1):=by simp [dX,Function.comp_def]
theorem cF.frame{A B A':aa}{O:Nat→Prop}{t:Nat}{T:aF}{m s:Nat}{E:List (ByteArray×Nat×aX)}(h:cF A B O t T m s E)(hO:∀k,O k→A'.blk k=A.blk k)(hB:B.Sub A'):cF A' B O t T m s E where
 nodes:=h.nodes
 top:=h.top.sub fun o ho=>by rw [hO t h.own.1];exact ho
 nmap:=h.nmap.sub fun o ho=>by rw [hO m h.own.2.1];exact ho
 smap:=h.smap.sub fun o ho=>by rw [hO s h.own.2.2.1];exact ho
 cells:=fun e he=>(h.cells e he).mono (hO _ (h.own.2.2.2 e he)) (aa.Sub.refl _)
 keys:=h.keys
 ptrs:=h.ptrs
 skeys:=h.skeys
 sub:=hB
 own:=h.own
 off:=h.off
 live:=fun k hk=>by rw [hO k hk];exact h.live k hk
 ne:=h.ne
theorem ba.frame{A B A':aa}{O:Nat→Prop}{t:Nat}{T:aF}(h:ba A B O t T)(hO:∀k,O k→A'.blk k=A.blk k)(hB:B.Sub A'):ba A' B O t T:=by
 obtain⟨m,s,E,h⟩:=h;exact⟨m,s,E,h.frame hO hB⟩
theorem cF.dom{A B:aa}{O:Nat→Prop}{t:Nat}{T:aF}{m s:Nat}{E:List (ByteArray×Nat×aX)}(h:cF A B O t T m s E){e:ByteArray×Nat×aX}(he:e∈E):e.2.1≠m∧e.2.1≠s:=by
 obtain⟨v,⟨c,ty,fz,h1,_⟩,_⟩:=h.cells e he;obtain⟨es,cl,h2,_⟩:=h.nmap;obtain⟨es',cl',h3,_⟩:=h.smap;exact⟨fun e=>(by rw [e,h2]at h1;cases h1),fun e=>(by rw [e,h3]at h1;cases h1)⟩
theorem cF.pO{A B:aa}{O:Nat→Prop}{t:Nat}{T:aF}{m s:Nat}{E:List (ByteArray×Nat×aX)}(h:cF A B O t T m s E):t≠m∧t≠s:=by
 obtain⟨c,ty,fz,h1,_⟩:=h.top;obtain⟨es,cl,h2,_⟩:=h.nmap;obtain⟨es',cl',h3,_⟩:=h.smap;exact⟨fun e=>(by rw [e,h2]at h1;cases h1),fun e=>(by rw [e,h3]at h1;cases h1)⟩
theorem cF.get{A B:aa}{O:Nat→Prop}{t:Nat}{T:aF}{m s:Nat}{E:List (ByteArray×Nat×aX)}(h:cF A B O t T m s E)(p:ByteArray):aG p T.nodes=(aG p E).map (·.2):=by rw [h.nodes,kD]
theorem cF.look{A B:aa}{O:Nat→Prop}{t:Nat}{T:aF}{m s:Nat}{E:List (ByteArray×Nat×aX)}(h:cF A B O t T m s E)(p:ByteArray):A.look m (.string p)=some ((aG p E).map fun x=>iV x.1):=by
 rw [kB h.nmap,kD]
 cases aG p E<;>rfl
theorem cF.mod{A B A' B':aa}{O:Nat→Prop}{t:Nat}{T:aF}{m s:Nat}{E:List (ByteArray×Nat×aX)}(h:cF A B O t T m s E){p:ByteArray}{g:Nat}{n n':aX}(hp:aG p E=some (g,n))
  (hO:∀k,O k→k≠g→A'.blk k=A.blk k) (hn:ma A' B' g n') (hB:B.Sub B') (hs:B'.Sub A') (hoff:∀k,O k→B'.blk k=none):cF A' B' O t ⟨dI p (fun _=>n') T.nodes,T.seats⟩ m s (dI p (fun x=>(x.1,n')) E):=by
 have hmem:=gV (en p) hp;obtain⟨a,b,h1,_,_,_,h2⟩:=gT (en p) hp;have h2:=h2 fun x=>(x.1,n')
 have hk:∀ {β:Type} (f:ByteArray×Nat×aX→β),f (p,g,n')=f (p,g,n)→(dI p (fun x=>(x.1,n')) E).map f=E.map f:=fun f hf=>by rw [h2,h1];simp [hf]
 have hne:=h.dom hmem;have hgt:=h.ne.2 _ hmem
 have hsplit:∀e∈dI p (fun x=>(x.1,n')) E,e=(p,g,n')∨(e∈E∧e.2.1≠g):=fun e he=>by
  rw [h2]at he;have hnd:=h.ptrs;rw [h1]at hnd;simp only [List.map_append,List.map_cons]at hnd;obtain⟨_,hb,hab⟩:=List.nodup_append.1 hnd;rw [List.nodup_cons]at hb;rcases List.mem_append.1 he with he|he
  ·refine .inr ⟨by rw [h1];exact List.mem_append_left _ he,fun eq=> ?_⟩
   exact hab _ (List.mem_map.2 ⟨e,he,rfl⟩) g (by simp) eq
  ·rcases List.mem_cons.1 he with rfl|he
   ·exact .inl rfl
   ·refine .inr ⟨by rw [h1];exact List.mem_append_right _ (List.mem_cons_of_mem _ he),fun eq=> ?_⟩
    exact hb.1 (List.mem_map.2 ⟨e,he,eq⟩)
 refine⟨?_,h.top.sub fun o ho=>(by rw [hO t h.own.1 (Ne.symm hgt)];exact ho),?_,h.smap.sub fun o ho=>(by rw [hO s h.own.2.2.1 (Ne.symm hne.2)];exact ho),fun e he=> ?_,by rw [hk _ rfl];exact h.keys,by rw [hk _ rfl];exact h.ptrs,h.skeys,hs,⟨h.own.1,h.own.2.1,h.own.2.2.1,fun e he=> ?_⟩,hoff,fun k hk=> ?_,⟨h.ne.1,fun e he=> ?_⟩⟩
 ·show dI p (fun _=>n') T.nodes=_
  rw [h.nodes];exact vK (·.2) (fun x=>(x.1,n')) (fun _=>n') (fun _=>rfl) p E
 ·have e1:dX (·.1) (dI p (fun x=>(x.1,n')) E)=dX (·.1) E:=hk _ rfl
  rw [e1];exact h.nmap.sub fun o ho=>(by rw [hO m h.own.2.1 (Ne.symm hne.1)];exact ho)
 ·rcases hsplit e he with rfl|⟨he,hg⟩
  ·exact hn
  ·exact(h.cells e he).mono (hO _ (h.own.2.2.2 e he) hg) hB
 ·rcases hsplit e he with rfl|⟨he,hg⟩
  ·exact h.own.2.2.2 (p,g,n) hmem
  ·exact h.own.2.2.2 e he
 ·by_cases e:k=g
  ·subst e
   obtain⟨v,h1,_⟩:=hn;exact h1.dom
  ·rw [hO k hk e];exact h.live k hk
 ·rcases hsplit e he with rfl|⟨he,hg⟩
  ·exact hgt
  ·exact h.ne.2 e he
theorem cF.put{A B A' B':aa}{O:Nat→Prop}{t:Nat}{T:aF}{m s:Nat}{E:List (ByteArray×Nat×aX)}(h:cF A B O t T m s E){p:ByteArray}{g:Nat}{n:aX}(hg:A.blk g=none)
  (hO:∀k,O k→k≠m→A'.blk k=A.blk k) (hm:bH A' m (dV (.string p) (iV g) (gd iV (dX (·.1) E)))) (hn:ma A' B' g n) (hB:B.Sub B') (hs:B'.Sub A') (hoff:∀k,O k∨k=g→B'.blk k=none):
  cF A' B' (fun k=>O k∨k=g) t ⟨bS p n T.nodes,T.seats⟩ m s (bS p (g,n) E):=by
 have hgo:∀e∈E,e.2.1≠g:=fun e he eq=>by
  obtain⟨v,h1,_⟩:=h.cells e he;obtain⟨o,ho⟩:=h1.dom;rw [eq,hg]at ho;cases ho
 have htg:t≠g:=fun e=>by
  obtain⟨o,ho⟩:=h.top.dom;rw [e,hg]at ho;cases ho
 have hsplit:∀e∈bS p (g,n) E,e=(p,g,n)∨e∈E:=fun e he=>by
  cases hp:aG p E with
  |none=>
   rw [lb hp,List.mem_append,List.mem_singleton]at he;exact he.symm
  |some x=>
   obtain⟨a,b,h1,_,h2,_,_⟩:=gT (en p) hp;rw [h2]at he;rcases List.mem_append.1 he with he|he
   ·exact .inr (by rw [h1];exact List.mem_append_left _ he)
   ·rcases List.mem_cons.1 he with rfl|he
    ·exact .inl rfl
    ·exact .inr (by rw [h1];exact List.mem_append_right _ (List.mem_cons_of_mem _ he))
 have hnd:(((bS p (g,n) E).map (·.1)).Nodup)∧((bS p (g,n) E).map (·.2.1)).Nodup:=by
  cases hp:aG p E with
  |none=>
   rw [lb hp];have h9:=gI (kJ p) hp;refine⟨?_,?_⟩
   ·rw [List.map_append,List.nodup_append]
    refine⟨h.keys,by simp,fun a ha b hb e=> ?_⟩;simp only [List.map_cons,List.map_nil,List.mem_singleton]at hb;subst hb;subst e;exact h9 ha
   ·rw [List.map_append,List.nodup_append]
    refine⟨h.ptrs,by simp,fun a ha b hb e=> ?_⟩;simp only [List.map_cons,List.map_nil,List.mem_singleton]at hb;subst hb;subst e
    obtain⟨x,hx,hx2⟩:=List.mem_map.1 ha;exact hgo x hx hx2
  |some x=>
   obtain⟨a,b,h1,_,h2,_,_⟩:=gT (en p) hp;rw [h2];have k1:=h.keys;have k2:=h.ptrs;rw [h1]at k1 k2;refine⟨by simpa using k1,?_⟩;simp only [List.map_append,List.map_cons]at k2 ⊢;obtain⟨d1,d2,d3⟩:=List.nodup_append.1 k2;rw [List.nodup_cons]at d2;refine List.nodup_append.2 ⟨d1,List.nodup_cons.2 ⟨fun hm=> ?_,d2.2⟩,fun u hu w hw e=> ?_⟩
   ·obtain⟨y,hy,hy2⟩:=List.mem_map.1 hm
    exact hgo y (by rw [h1];exact List.mem_append_right _ (List.mem_cons_of_mem _ hy)) hy2
   ·rcases List.mem_cons.1 hw with rfl|hw
    ·obtain⟨y,hy,hy2⟩:=List.mem_map.1 hu
     exact hgo y (by rw [h1];exact List.mem_append_left _ hy) (hy2.trans e)
    ·exact d3 u hu w (List.mem_cons_of_mem _ hw) e
 have htm:=h.pO;refine⟨?_,h.top.sub fun o ho=>(by rw [hO t h.own.1 htm.1];exact ho),?_,h.smap.sub fun o ho=>(by rw [hO s h.own.2.2.1 (Ne.symm h.ne.1)];exact ho),fun e he=> ?_,hnd.1,hnd.2,h.skeys,hs,⟨.inl h.own.1,.inl h.own.2.1,.inl h.own.2.2.1,fun e he=> ?_⟩,hoff,fun k hk=> ?_,⟨h.ne.1,fun e he=> ?_⟩⟩
 ·show bS p n T.nodes=_
  rw [h.nodes];exact qF (·.2) p (g,n) E
 ·have:dV (.string p) (iV g) (gd iV (dX (·.1) E))=gd iV (dX (·.1) (bS p (g,n) E)):=by
    rw [mn];congr 1;exact qF (·.1) p (g,n) E
  rw [←this];exact hm
 ·rcases hsplit e he with rfl|he
  ·exact hn
  ·exact(h.cells e he).mono (hO _ (h.own.2.2.2 e he) (h.dom he).1) hB
 ·rcases hsplit e he with rfl|he
  ·exact .inr rfl
  ·exact .inl (h.own.2.2.2 e he)
 ·rcases hk with hk|rfl
  ·by_cases e:k=m
   ·subst e
    obtain⟨es,cl,h1,_⟩:=hm;exact⟨_,h1⟩
   ·rw [hO k hk e];exact h.live k hk
  ·obtain⟨v,h1,_⟩:=hn
   exact h1.dom
 ·rcases hsplit e he with rfl|he
  ·exact Ne.symm htg
  ·exact h.ne.2 e he
theorem eZ{κ α:Type} [BEq κ](p:κ):∀l:List (κ×α),List.Sublist (dQ p l) l
 | []=>List.Sublist.refl _
 |e::es=>by
  simp only [dQ]
  cases hb:p==e.1 with
  |true=>exact List.sublist_cons_self _ _
  |false=>exact(eZ p es).cons_cons e
theorem cF.del{A B A':aa}{O:Nat→Prop}{t:Nat}{T:aF}{m s:Nat}{E:List (ByteArray×Nat×aX)}(h:cF A B O t T m s E){p:ByteArray}
  (hO:∀k,k≠m→A'.blk k=A.blk k) (hm:bH A' m (gp (.string p) (gd iV (dX (·.1) E)))):cF A' B O t ⟨dQ p T.nodes,T.seats⟩ m s (dQ p E):=by
 have hsub:=eZ p E;have htm:=h.pO;refine⟨?_,h.top.sub fun o ho=>(by rw [hO t htm.1];exact ho),?_,h.smap.sub fun o ho=>(by rw [hO s (Ne.symm h.ne.1)];exact ho),fun e he=> ?_,h.keys.sublist (hsub.map _),h.ptrs.sublist (hsub.map _),h.skeys,fun k o hk=> ?_,⟨h.own.1,h.own.2.1,h.own.2.2.1,fun e he=>h.own.2.2.2 e (hsub.subset he)⟩,h.off,fun k hk=> ?_,⟨h.ne.1,fun e he=>h.ne.2 e (hsub.subset he)⟩⟩
 ·show dQ p T.nodes=_
  rw [h.nodes];exact qI (·.2) p E
 ·have:gp (.string p) (gd iV (dX (·.1) E))=gd iV (dX (·.1) (dQ p E)):=by
    rw [uK];congr 1;exact qI (·.1) p E
  rw [←this];exact hm
 ·have he:=hsub.subset he
  exact(h.cells e he).mono (hO _ (h.dom he).1) (aa.Sub.refl _)
 ·rw [hO k fun e=>by subst e;rw [h.off _ h.own.2.1]at hk;cases hk]
  exact h.sub k o hk
 ·by_cases e:k=m
  ·subst e
   obtain⟨es,cl,h1,_⟩:=hm;exact⟨_,h1⟩
  ·rw [hO k e];exact h.live k hk
theorem cF.sit{A B A':aa}{O:Nat→Prop}{t:Nat}{T:aF}{m s:Nat}{E:List (ByteArray×Nat×aX)}(h:cF A B O t T m s E){l:List (Int×bn)}
  (hO:∀k,k≠s→A'.blk k=A.blk k) (hm:bH A' s (iG eh l)) (hl:(l.map (·.1)).Nodup):cF A' B O t ⟨T.nodes,l⟩ m s E:=by
 have htm:=h.pO;refine⟨h.nodes,h.top.sub fun o ho=>(by rw [hO t htm.2];exact ho),h.nmap.sub fun o ho=>(by rw [hO m h.ne.1];exact ho),hm,fun e he=>(h.cells e he).mono (hO _ (h.dom he).2) (aa.Sub.refl _),h.keys,h.ptrs,hl,fun k o hk=> ?_,h.own,h.off,fun k hk=> ?_,h.ne⟩
 ·rw [hO k fun e=>by subst e;rw [h.off _ h.own.2.2.1]at hk;cases hk]
  exact h.sub k o hk
 ·by_cases e:k=s
  ·subst e
   obtain⟨es,cl,h1,_⟩:=hm;exact⟨_,h1⟩
  ·rw [hO k e];exact h.live k hk
theorem dC{p:Int}{x:bn}{l:List (Int×bn)}(h:(l.map (·.1)).Nodup):((bS p x l).map (·.1)).Nodup:=by
 cases hp:aG p l with
 |none=>
  rw [lb hp,List.map_append,List.nodup_append];refine⟨h,by simp,fun a ha b hb e=> ?_⟩;simp only [List.map_cons,List.map_nil,List.mem_singleton]at hb;subst hb;subst e;exact gI (by simp) hp ha
 |some y=>
  obtain⟨a,b,h1,_,h2,_,_⟩:=gT (zB p) hp;rw [h2];rw [h1]at h;simpa using h
structure bC where
 id:Int
 role:Int
 weight:Int
 group:Int
def bC.cells(m:bC):List Value:= [.int .i64 m.id,.int .u8 m.role,.int .i64 m.weight,.int .i64 m.group]
def eB(l:List bC):List Value:=(l.map bC.cells).flatten
theorem lB(l:List bC):∀r∈l.map bC.cells,r.length=4:=fun r hr=>by
 obtain⟨m,_,rfl⟩:=List.mem_map.1 hr;rfl
def gq(B:aa)(v:Value)(l:List bC):Prop:=Sl B 4 l.length v (eB l)∧l.length*32≤140737488351232
theorem gq.sub{A B:aa}(h:B.Sub A){v:Value}{l:List bC}(hs:gq B v l):gq A v l:=⟨hs.1.sub h,hs.2⟩
structure c7 where
 zxid:Int
 kind:Int
 ses:Int
 turn:Int
 xid:Int
 time:Int
 path:ByteArray
 data:List UInt8
 owner:Int
 ver:Int
 cver:Int
 tmo:Int
 err:Int
 cfg:Int
 mem:List bC
inductive aU where
 |mk (h:c7) (parts:List aU)
def aU.h:aU→c7| .mk h _=>h
def aU.parts:aU→List aU| .mk _ p=>p
def c7.cells(h:c7)(vd vm vp:Value):List Value:= [.int .i64 h.zxid,.int .u8 h.kind,.int .i64 h.ses,.int .i64 h.turn,.int .i64 h.xid,.int .i64 h.time,.string h.path,vd,.int .i64 h.owner,.int .i64 h.ver,.int .i64 h.cver,.int .i64 h.tmo,.int .i64 h.err,.int .i64 h.cfg,vm,vp]
mutual
def cQ(B:aa):aU→List Value→Prop
 | .mk h parts,cs=>∃vd vm vp rows,cs=h.cells vd vm vp∧h.path.data.toList.length≤140737488351232∧SlB B vd h.data∧gq B vm h.mem∧Sl B 16 parts.length vp rows.flatten∧parts.length*184≤140737488351232∧dg B parts rows
def dg(B:aa):List aU→List (List Value)→Prop
 | [],rows=>rows= []
 |d::ds,rows=>∃r rs,rows=r::rs∧cQ B d r∧dg B ds rs
end
def om(B:aa)(v:Value)(ds:List aU):Prop:=∃rows,Sl B 16 ds.length v rows.flatten∧ds.length*184≤140737488351232∧dg B ds rows
theorem cQ.len{B:aa}{d:aU}{cs:List Value}(h:cQ B d cs):cs.length=16:=by
 cases d
 obtain⟨vd,vm,vp,rows,rfl,_⟩:=h;rfl
theorem cQ.form{B:aa}{d:aU}{cs:List Value}(h:cQ B d cs):∃a7 l7 k7 a14 l14 k14 a15 l15 k15,cs=d.h.cells (.slice a7 l7 k7) (.slice a14 l14 k14) (.slice a15 l15 k15):=by
 obtain⟨hd,parts⟩:=d;obtain⟨vd,vm,vp,rows,rfl,_,⟨h1,_⟩,⟨h2,_⟩,h3,_⟩:=h;obtain⟨a5,k5,rfl⟩:=h1.form;obtain⟨a13,k13,rfl⟩:=h2.form;obtain⟨a14,k14,rfl⟩:=h3.form;exact⟨_,_,_,_,_,_,_,_,_,rfl⟩
theorem dg.length{B:aa} :∀ {ds:List aU} {rows:List (List Value)},dg B ds rows→rows.length=ds.length
 | [],_,h=>by simp [dg]at h;subst h;rfl
 |d::ds,rows,h=>by
  obtain⟨r,rs,rfl,_,h⟩:=h;simp [dg.length h]
theorem dg.lens{B:aa} :∀ {ds:List aU} {rows:List (List Value)},dg B ds rows→∀r∈rows,r.length=16
 | [],_,h=>by simp [dg]at h;subst h;simp
 |d::ds,rows,h=>by
  obtain⟨r,rs,rfl,h1,h2⟩:=h;intro x hx;rcases List.mem_cons.1 hx with rfl|hx
  ·exact h1.len
  ·exact dg.lens h2 x hx
theorem dg.at_{B:aa} :∀ {ds:List aU} {rows:List (List Value)},dg B ds rows→∀(k:Nat) (h1:k<ds.length) (h2:k<rows.length),cQ B ds[k] rows[k]
 | [],_,_,k,h1,_=>by simp at h1
 |d::ds,rows,h,k,h1,h2=>by
  obtain⟨r,rs,rfl,h3,h4⟩:=h
  cases k with
  |zero=>exact h3
  |succ k=>exact dg.at_ h4 k (by simpa using h1) (by simpa using h2)
mutual
theorem cQ.sub{A B:aa}(h:B.Sub A):∀(d:aU) (cs:List Value),cQ B d cs→cQ A d cs
 | .mk _ parts,cs,hr=>by
   obtain⟨vd,vm,vp,rows,h1,h0,h2,h3,h4,h5,h6⟩:=hr;exact⟨vd,vm,vp,rows,h1,h0,h2.sub h,h3.sub h,h4.sub h,h5,dg.sub h parts rows h6⟩
theorem dg.sub{A B:aa}(h:B.Sub A):∀(ds:List aU) (rows:List (List Value)),dg B ds rows→dg A ds rows
 | [],_,hr=>hr
 |d::ds,rows,hr=>by
  obtain⟨r,rs,h1,h2,h3⟩:=hr;exact⟨r,rs,h1,cQ.sub h d r h2,dg.sub h ds rs h3⟩
end
theorem pC{A:aa}{g o n:Nat}{ds:List aU}{rows:List (List Value)}(h:A.rd g o (n*16)=some rows.flatten)(hr:dg A ds rows)(k:Nat)(hk:k<ds.length)(hn:n=ds.length):∃cs,A.rd g (o+k*16) 16=some cs∧cQ A ds[k] cs:=by
 have hl:=hr.length;exact⟨_,tp h hr.lens k (by omega) (by omega),hr.at_ k hk (by omega)⟩
def dy(cs:List Value):Value:= .agg cs.toArray
end
end Go.Sx
namespace Go.Proofs.YtmmlhdiejkknnaaGreatDoor
open Go.Sx Go.RowKit
noncomputable section
open Classical
def I64(n:Int):Prop:= -9223372036854775808≤n∧n≤9223372036854775807
def fh(s:ec):Prop:=I64 s.czxid∧I64 s.mzxid∧I64 s.pzxid∧I64 s.ctime∧I64 s.mtime∧I64 s.ver∧I64 s.cver∧I64 s.owner
def na(s:bn):Prop:=I64 s.ses∧I64 s.tmo∧I64 s.turn
theorem wf_i64{n:Int}(h:(Lit.int .i64 n).wf=true):I64 n:=by
 have h:(decide (IntKind.i64.min≤n)&&decide (n≤IntKind.i64.max))=true:=h;rw [Bool.and_eq_true,decide_eq_true_iff,decide_eq_true_iff]at h;exact h
def H64(h:c7):Prop:=I64 h.zxid∧I64 h.ses∧I64 h.turn∧I64 h.xid∧I64 h.time∧I64 h.owner∧I64 h.ver∧I64 h.cver∧I64 h.tmo∧I64 h.err∧I64 h.cfg
def ib(d:aU):Prop:=H64 d.h∧∀p∈d.parts,H64 p.h
end
end Go.Proofs.YtmmlhdiejkknnaaGreatDoor
namespace Go.Proofs.YtmmlhdiejkknnaaGreatDoor
open Go.RowKit Go.Shelf
theorem idx1(s:ByteArray)(c:Int)(w:World):
  Calls Tryz.prog 291 #[.string s,.int .u8 c] w fun e w'=>e= .returned (.int .i64 (Lib.indexByte s.data.toList c.toNat.toUInt8))∧w'=w:=by
 go_enter Tryz.func291,Tryz.ntmps291
 go_wp2
 rw [run_callFunc_extern Tryz.func300 (by kernel_rfl) (by kernel_rfl) (by kernel_rfl) (e:=Extern.BytealgIndexByte.indexByte) (by kernel_rfl),Lib.run_indexByteString];simp only [Result.andThen];rw [Oper.upon_value]
 go_wp2
 go_ret
 exact⟨rfl,rfl⟩
theorem idx2(s:ByteArray)(w:World):
  Calls Tryz.prog 285 #[.string s,.string ⟨#[47]⟩] w fun e w'=>e= .returned (.int .i64 (Lib.index s.data.toList [47]))∧w'=w:=by
 go_enter Tryz.func285,Tryz.ntmps285
 go_wp2_with (go_at_call 291;refine(idx1 _ _ _).mono ?_;rintro e w' ⟨rfl,rfl⟩)
 ·have h1:([47]==s.toList)=true:=by assumption
  go_ret
  refine⟨?_,rfl⟩;rw [show Lib.index s.data.toList [47]=0 from Lib.zero s ⟨#[47]⟩ (.inr (by simpa using h1))];rfl
 ·go_ret
  refine⟨?_,rfl⟩;rw [show Lib.index s.data.toList [47]=_ from Lib.one s ⟨#[47]⟩ rfl];rfl
theorem cut1(s:ByteArray)(hs:s.size<4294967281)(w:World):
  Calls Tryz.prog 269 #[.string s,.string ⟨#[47]⟩] w fun e w'=>e= .returned (.tuple #[.string ⟨(Lib.cut s.data.toList [47]).1.toArray⟩,.string ⟨(Lib.cut s.data.toList [47]).2.1.toArray⟩,.bool (Lib.cut s.data.toList [47]).2.2])∧∃n,w'=w.drewN n:=by
 have mixed:Tryz.prog.follows .mixedOrders=true:=by kernel_rfl
 rcases Lib.indexB_cases s ⟨#[47]⟩with hix|⟨i,hix,hroom⟩
 ·obtain⟨e1,e2,e3⟩:=Lib.cutB_miss s ⟨#[47]⟩ hix
  rw [show(Lib.cut s.data.toList [47]).1=_ from rfl,show(⟨(Lib.cut s.data.toList [47]).1.toArray⟩:ByteArray)=_ from e1,show(⟨(Lib.cut s.data.toList [47]).2.1.toArray⟩:ByteArray)=_ from e2,show(Lib.cut s.data.toList [47]).2.2=_ from e3]
  go_enter Tryz.func269,Tryz.ntmps269
  go_wp2_with (go_at_call 285;refine(idx2 _ _).mono ?_;rintro e w' ⟨rfl,rfl⟩;rw [show Lib.index s.data.toList [47]=_ from hix])
  go_ret3
  exact⟨rfl,0,rfl⟩
 ·obtain⟨e1,e2,e3⟩:=Lib.cutB_hit s ⟨#[47]⟩ i hix
  rw [show(⟨(Lib.cut s.data.toList [47]).1.toArray⟩:ByteArray)=_ from e1,show(⟨(Lib.cut s.data.toList [47]).2.1.toArray⟩:ByteArray)=_ from e2,show(Lib.cut s.data.toList [47]).2.2=_ from e3];have c0:(⟨#[47]⟩:ByteArray).size=1:=rfl;rw [c0]at hroom ⊢;have c1:(0:Int)≤ ↑i:=by omega
  have c2:(↑i:Int)≤ ↑s.size:=by omega
  have c3:(0:Int)≤ ↑i+1:=by omega
  have c4:(↑i+1:Int)≤ ↑s.size:=by omega
  go_enter Tryz.func269,Tryz.ntmps269
  go_wp2_with (go_at_call 285;refine(idx2 _ _).mono ?_;rintro e w' ⟨rfl,rfl⟩;rw [show Lib.index s.data.toList [47]=_ from hix])
  go_region_o
  go_wp2
  go_ret3
  exact⟨rfl,1,rfl⟩
theorem cut2(s:ByteArray)(hs:s.size<4294967281)(w:World):
  Calls Tryz.prog 214 #[.string s,.string ⟨#[47]⟩] w fun e w'=>e= .returned (.tuple #[.string ⟨(Lib.cut s.data.toList [47]).1.toArray⟩,.string ⟨(Lib.cut s.data.toList [47]).2.1.toArray⟩,.bool (Lib.cut s.data.toList [47]).2.2])∧∃n,w'=w.drewN n:=by
 go_enter Tryz.func214,Tryz.ntmps214
 go_wp2_with (go_at_call 269;refine(cut1 _ hs _).mono ?_;rintro e w' ⟨rfl,n,rfl⟩)
 go_ret3
 exact⟨rfl,n,rfl⟩
def gi(b:UInt8):Bool:=decide (33≤b.toNat)&&decide (b.toNat≤126)&& !(b==47)
def dz(l:List UInt8):Bool:=l.all gi&& !l.isEmpty&& !(l== [46])&& !(l== [46,46])
theorem lh(s:ByteArray)(pos:Nat)(hp:pos<s.size):
  (gi (s[pos]'hp)=true∧Utf8.decode s pos=((s[pos]'hp).toNat,1)∧33≤(Utf8.decode s pos).1∧(Utf8.decode s pos).1≤126∧(Utf8.decode s pos).1≠47)∨
  (gi (s[pos]'hp)=false∧((Utf8.decode s pos).1<33∨126<(Utf8.decode s pos).1∨(Utf8.decode s pos).1=47)):=by
 by_cases ha:(s[pos]'hp).toNat<128
 ·have hd:=decode_ascii s pos hp ha
  rw [hd]
  have h47:((s[pos]'hp)==47)=decide ((s[pos]'hp).toNat=47):=by
   rw [Bool.eq_iff_iff,beq_iff_eq,decide_eq_true_iff];exact⟨fun h=>by rw [h];rfl,fun h=>UInt8.toNat_inj.1 (by rw [h];rfl)⟩
  unfold gi;rw [h47]
  by_cases h1:33≤(s[pos]'hp).toNat<;>by_cases h2:(s[pos]'hp).toNat≤126<;>by_cases h3:(s[pos]'hp).toNat=47<;>simp [h1,h2,h3]<;>omega
 ·refine .inr ⟨?_,.inr (.inl ?_)⟩
  ·unfold gi
   have:¬(s[pos]'hp).toNat≤126:=by omega
   simp [this]
  ·have:=(decode_high s pos hp (by omega)).1
   omega
theorem qn(s:ByteArray)(pos:Nat)(hp:pos<s.size)(h:gi (s[pos]'hp)=false):dz s.data.toList=false:=by
 unfold dz
 have:s.data.toList.all gi=false:=by
  rw [List.all_eq_false];exact⟨s[pos]'hp,by simp [ByteArray.getElem_eq_getElem_data],by simp [h]⟩
 simp [this]
theorem Dl(s:ByteArray)(pos:Nat)(hp:¬pos<s.size)(h2:(s.data.toList.take pos).all gi=true):Hid (dz s.data.toList=(!s.toList.isEmpty&& !s.toList== [46]&& !s.toList== [46,46])):=by
 show _=_
 rw [List.take_of_length_le (by have:s.data.toList.length=s.size:=rfl;omega)]at h2;unfold dz;rw [h2,ByteArray.toList_eq];simp
theorem take_ok(s:ByteArray)(pos:Nat)(hp:pos<s.size)(h:gi (s[pos]'hp)=true)(h2:(s.data.toList.take pos).all gi=true):(s.data.toList.take (pos+1)).all gi=true:=by
 have hl:pos<s.data.toList.length:=by simpa using hp
 rw [List.take_succ_eq_append_getElem hl,List.all_append,h2];simpa [ByteArray.getElem_eq_getElem_data]using h
theorem part1(s:ByteArray)(w:World):
  Calls Tryz.prog 134 #[.string s] w fun e w'=>e= .returned (.bool (dz s.data.toList))∧∃pos,w'=w.iter s pos:=by
 go_enter Tryz.func134,Tryz.ntmps134
 go_wp2
 go_loopw [] (fun w'=>∃(pos:Nat),w'=w.iter s pos∧pos≤s.size∧(s.data.toList.take pos).all gi=true) (fun w'=>s.size-w'.iterPos w.heap.size)
 case atStart=>exact⟨0,rfl,by omega,by simp⟩
 case round=>
  obtain⟨pos,rfl,h1,h2⟩:=hrel
  by_cases hp:pos<s.size
  ·have hnx:∀ty,(Instr.next (.pointer (some ⟨w.heap.size,0,none⟩)) true ty).run Tryz.prog (w.iter s pos)=_:=fun ty=>run_next_any w s pos ty hp
   go_wp2
   ·rename_i g
    rcases lh s pos hp with⟨k1,k2,k3,k4,k5⟩|⟨k1,k2⟩
    ·exfalso
     rcases g with g|g
     ·omega
     ·have:=eq_of_beq g;omega
    ·have k3:=qn s pos hp k1
     go_ret
     exact⟨by rw [k3];rfl,_,rfl⟩
   ·rename_i g
    rcases lh s pos hp with⟨k1,k2,k3,k4,k5⟩|⟨k1,k2⟩
    ·rw [k2]
     exact⟨⟨pos+1,rfl,by omega,take_ok s pos hp k1 h2⟩,by simp;omega⟩
    ·exfalso
     obtain⟨g,g'⟩:=g;have:=ne_of_beq_false g';omega
   ·rename_i g
    rcases lh s pos hp with⟨k1,k2,k3,k4,k5⟩|⟨k1,k2⟩
    ·exfalso;omega
    ·have k3:=qn s pos hp k1
     go_ret
     exact⟨by rw [k3];rfl,_,rfl⟩
   ·rename_i g
    rcases lh s pos hp with⟨k1,k2,k3,k4,k5⟩|⟨k1,k2⟩
    ·exfalso;omega
    ·have k3:=qn s pos hp k1
     go_ret
     exact⟨by rw [k3];rfl,_,rfl⟩
  ·have hnx:∀ty,(Instr.next (.pointer (some ⟨w.heap.size,0,none⟩)) true ty).run Tryz.prog (w.iter s pos)=_:=fun ty=>run_next_end w s pos ty hp
   have h3:=Dl s pos hp h2
   go_wp2
   ·rename_i g
    go_ret
    refine⟨?_,_,rfl⟩;rw [h3.out,g];rfl
   ·rename_i g
    go_ret
    refine⟨?_,_,rfl⟩;rw [h3.out,g];rfl
   ·go_ret
    refine⟨?_,_,rfl⟩;rw [h3.out];rfl
end Go.Proofs.YtmmlhdiejkknnaaGreatDoor
namespace Go.Proofs.YtmmlhdiejkknnaaGreatDoor
open Go.RowKit Go.Shelf
attribute [local go_sem] Oper.semAt_some
def eR:List UInt8→List (List UInt8)
 | []=> [[]]
 |b::l=>bif b==47 then []::eR l else match eR l with
  |x::xs=>(b::x)::xs
  | []=> [[b]]
def dc(q:List UInt8):Bool:=q.isEmpty||(eR q).all dz
theorem oz:∀(l:List UInt8),(∀b∈l,b≠47)→eR l= [l]
 | [],_=>rfl
 |b::l,h=>by
  have hb:(b==47)=false:=by simpa using h b (by simp)
  simp [eR,hb,oz l (fun x hx=>h x (by simp [hx]))]
theorem pT:∀(a b:List UInt8),(∀x∈a,x≠47)→eR (a++47::b)=a::eR b
 | [],b,_=>by simp [eR]
 |x::a,b,h=>by
  have hb:(x==47)=false:=by simpa using h x (by simp)
  simp [eR,hb,pT a b (fun y hy=>h y (by simp [hy]))]
theorem oM:∀(l:List UInt8),(Lib.index l [47]= -1∧∀x∈l,x≠47)∨(∃a b,l=a++47::b∧(∀x∈a,x≠47)∧Lib.index l [47]=a.length)
 | []=> .inl ⟨rfl,by simp⟩
 |x::l=>by
  by_cases hx:x=47
  ·subst hx
   exact .inr ⟨[],l,rfl,by simp,by simp [Lib.index,List.isPrefixOf]⟩
  ·have e:List.isPrefixOf [47] (x::l)=false:=by
     simp [List.isPrefixOf];exact fun h=>hx h.symm
   rcases oM l with⟨h1,h2⟩|⟨a,b,h1,h2,h3⟩
   ·refine .inl ⟨by simp [Lib.index,e,h1],fun y hy=> ?_⟩
    rcases List.mem_cons.1 hy with rfl|hy
    ·exact hx
    ·exact h2 y hy
   ·refine .inr ⟨x::a,b,by simp [h1],fun y hy=> ?_,?_⟩
    ·rcases List.mem_cons.1 hy with rfl|hy
     ·exact hx
     ·exact h2 y hy
    ·have:((a.length:Int)== -1)=false:=by rw [beq_eq_false_iff_ne];omega
     simp [Lib.index,e,h3,this]
def jj(q n1 n2:List UInt8):Prop:=
 (n1=q∧n2= []∧eR q= [q])∨(q=n1++47::n2∧eR q=n1::eR n2)
theorem BO(q:List UInt8):jj q (Lib.cut q [47]).1 (Lib.cut q [47]).2.1:=by
 unfold Lib.cut;rcases oM q with⟨h1,h2⟩|⟨a,b,h1,h2,h3⟩
 ·rw [h1]
  exact .inl ⟨rfl,rfl,oz q h2⟩
 ·rw [h3,if_pos (by omega)]
  refine .inr ?_;have e1:q.take (↑a.length:Int).toNat=a:=by rw [h1];simp
  have e2:q.drop ((↑a.length:Int).toNat+ [47].length)=b:=by
   rw [h1];simp
  simp only [e1];rw [show q.drop ((↑a.length:Int).toNat+ [(47:UInt8)].length)=b from e2];rw [h1];exact⟨rfl,pT a b h2⟩
theorem cut3(s:ByteArray)(hs:s.size<4294967281)(w:World):
  Calls Tryz.prog 214 #[.string s,.string ⟨#[47]⟩] w fun e w'=>∃n1 n2 b n,e= .returned (.tuple #[.string n1,.string n2,.bool b])∧w'=w.drewN n∧Hid (jj s.data.toList n1.data.toList n2.data.toList):=by
 refine(cut2 s hs w).mono ?_
 rintro e w' ⟨rfl,n,rfl⟩
 exact⟨_,_,_,n,rfl,rfl,BO _⟩
end Go.Proofs.YtmmlhdiejkknnaaGreatDoor
namespace Go.Proofs.YtmmlhdiejkknnaaGreatDoor
open Go.RowKit Go.Shelf
attribute [local go_sem] Oper.semAt_some
def strSize:Option Value→Nat
 |some (.string s)=>s.size
 |_=>0
theorem Ee{p:ByteArray}{b:UInt8}{q:List UInt8}(hp:p.data.toList=b::q):(p.extract 1 p.size).data.toList=q:=by
 have:(p.extract 1 p.size).data.toList=(p.data.toList.drop 1).take (p.size-1):=by
  rw [ByteArray.data_extract];simp [Array.toList_extract]
 rw [this,hp];have h:p.size=(b::q).length:=by rw [←hp];rfl
 simp [h]
theorem wrap64_in'(n:Int)(h: -9223372036854775808≤n∧n≤9223372036854775807):wrap64 n=n:=by unfold wrap64;omega
theorem ef(p:ByteArray):p.size=p.data.toList.length:=rfl
theorem CN{q n1 n2:List UInt8}(hq:q≠ [])(h:jj q n1 n2)(ho:dz n1=false):dc q=false:=by
 unfold dc;rcases h with⟨h1,_,h3⟩|⟨_,h3⟩
 ·rw [h3,←h1]
  cases n1 with
  |nil=>exact absurd h1.symm hq
  |cons x xs=>simp [ho]
 ·rw [h3]
  cases q with
  |nil=>exact absurd rfl hq
  |cons x xs=>simp [ho]
theorem Av{q n1 n2:List UInt8}(h:jj q n1 n2)(ho:dz n1=true)(hl:n1.length=q.length):dc q=true:=by
 unfold dc;rcases h with⟨h1,_,h3⟩|⟨h1,_⟩
 ·rw [h3,←h1]
  simp [ho]
 ·rw [h1]at hl;simp at hl
theorem Au{q n1 n2:List UInt8}(h:jj q n1 n2)(ho:dz n1=true)(hl:n1.length≠q.length):q.length=n1.length+n2.length+1∧dc q=(eR n2).all dz:=by
 rcases h with⟨h1,_,h3⟩|⟨h1,h2⟩
 ·exact absurd (by rw [h1]) hl
 ·refine⟨by rw [h1];simp;omega,?_⟩
  unfold dc;rw [h2]
  cases q with
  |nil=>simp at h1
  |cons x xs=>simp [ho]
theorem iter1(n:Nat)(_:2≤n)(l Bn:Nat)(J Jx:ByteArray→World→Prop)
  (jc:∀p W,J p W→W.cell? ⟨Bn,0,none⟩=some (.string p)∧W.frozen? ⟨Bn,0,none⟩=false)
  (xc:∀p W,Jx p W→W.cell? ⟨Bn,0,none⟩=some (.string p))
  (jd:∀p W k,J p W→J p (W.drewN k))
  (js:∀p p' W,J p W→J p' (W.setCell ⟨Bn,0,none⟩ (.string p')))
  (hY:∀p x W,J p W→YieldAt Fence.wide (n-1) Tryz.prog l #[.string x] W fun e W'=>(Hid (dz x.data.toList=true)∧e= .returned (.bool true)∧J p W')∨(Hid (dz x.data.toList=false)∧e= .returned (.bool false)∧Jx p W'))
  (p0:ByteArray) (q0:List UInt8) (hp0:Hid (p0.data.toList=47::q0)) (hsz:p0.size≤200) (W:World) (h0:J p0 W):
  CallsIn Fence.wide n Tryz.prog 213 #[.func (.yield l) #[] #[],.pointer (some ⟨Bn,0,none⟩)] W fun e W'=>(∃v,e= .returned v)∧
   ((dc q0=true∧∃p,J p W')∨(dc q0=false∧∃p,Jx p W')):=by
 refine callsIn_of_wp Tryz.func213 rfl trivial ?_ rfl;simp only [Tryz.ntmps213,List.size_toArray,List.length_cons,List.length_nil,Nat.reduceAdd,Nat.reduceSub,Array.replicate_succ,Array.replicate_zero,List.push_toArray,List.append_toArray,List.nil_append,List.cons_append]
 gi_wp2
 gi_loopw [] (fun wr=>(∃(p:ByteArray) (q:List UInt8),J p wr∧Hid (p.data.toList=47::q)∧Hid (dc q=dc q0)∧p.size≤200)∨(∃p:ByteArray,Jx p wr∧Hid (p=⟨#[47]⟩)∧Hid (dc q0=false)))
  (fun wr=>strSize (wr.cell? ⟨Bn,0,none⟩))
 case atStart=>exact .inl ⟨p0,q0,h0,hp0,rfl,hsz⟩
 case round=>
  rcases hrel with⟨p,q,hJ,hp,hq,hs⟩|⟨p,hX,hp,hq⟩
  ·obtain⟨hc,hf⟩:=jc p wr hJ
   have hs1:(1:Int)≤ ↑p.size:=by
    have:p.size=(47::q).length:=by rw [←hp.out];rfl
    simp at this;omega
   have hsq:Hid (p.size=q.length+1):=by show _=_;rw [ef,hp.out];rfl
   by_cases hq':q= []
   ·
    have hp':p=⟨#[47]⟩:=by
     have h:=hp.out;rw [hq']at h;obtain⟨⟨x⟩⟩:=p;simp at h;rw [h]
    subst hp'
    have hq2:Hid (dc q0=true):=by
     have h:=hq.out;rw [hq']at h;exact h.symm
    clear hq'
    gi_wp2
    go_end0
    exact⟨⟨_,rfl⟩,.inl ⟨hq2.out,_,hJ⟩⟩
   ·have hne:(p.toList== [47])=false:=by
      rw [beq_eq_false_iff_ne,ByteArray.toList_eq,hp.out];intro h;injection h with _ h
      exact hq' h
    have hee:p.toList.isEmpty=false:=by
     rw [ByteArray.toList_eq,hp.out];rfl
    have hq2:Hid (q≠ []):=hq';clear hq'
    gi_wp2
    refine⟨trivial,fun h=>(by cases h),?_⟩;refine(callsIn_wide.2 (cut3 _ (by rw [ByteArray.size_extract];omega) _)).mono ?_
    rintro e w' ⟨n1,n2,b,k,rfl,rfl,hcut⟩
    have hcut':Hid (jj q n1.data.toList n2.data.toList):=by
     have h:=hcut.out;rw [Ee hp.out]at h;exact h
    clear hcut;have hJ1:=jd _ _ k hJ;obtain⟨hc1,hf1⟩:=jc _ _ hJ1;obtain⟨fn,tmps,assign,body,hy,hR⟩:=hY _ n1 _ hJ1
    gi_wp2
    refine⟨fun h=>(by cases h),hR.mono ?_⟩
    rintro e W3 (⟨ho,rfl,hJ3⟩|⟨ho,rfl,hX3⟩)
    ·obtain⟨hc3,hf3⟩:=jc _ _ hJ3
     by_cases hl:n1.data.toList.length=q.length
     ·have hlast:Hid (dc q0=true):=by
        rw [←hq.out];exact Av hcut'.out ho.out hl
      have hlen:wrap64 ((n1.size:Int)+1)=(p.size:Int):=by
       have h1:=hsq.out;rw [wrap64_in' _ (by rw [ef];omega),ef n1,hl,h1];simp
      clear hl
      gi_wp2
      refine bodyPost_ret (results_none rfl _ _ _) rfl ?_;exact⟨⟨_,rfl⟩,.inl ⟨hlast.out,_,hJ3⟩⟩
     ·obtain⟨hlq,hmore'⟩:=Au hcut'.out ho.out hl
      have hmore:Hid (dc q0=(eR n2.data.toList).all dz):=by
       rw [←hq.out];exact hmore'
      have hlen:(wrap64 ((n1.size:Int)+1)==(p.size:Int))=false:=by
       have h1:=hsq.out;rw [wrap64_in' _ (by rw [ef];omega),ef n1,h1,beq_eq_false_iff_ne];omega
      have hn2:¬9223372036854775807<1+n2.size:=by
       have h1:=hsq.out;rw [ef];omega
      have hlq2:Hid (q.length=n1.data.toList.length+n2.data.toList.length+1):=hlq;clear hl hlq hmore';have hJ4:=js p (⟨#[47]⟩++n2) W3 hJ3;obtain⟨fn2,tm2,as2,bo2,hy2,hR2⟩:=hY _ ⟨#[]⟩ _ hJ4
      gi_wp2
      ·rename_i hz _ _
       have hz':n2.data.toList= []:=by
        rw [ByteArray.toList_eq]at hz;exact List.isEmpty_iff.1 hz
       have hz2:n2=⟨#[]⟩:=by
        obtain⟨⟨x⟩⟩:=n2;simp at hz';rw [hz']
       clear hz hz';refine⟨fun h=>(by cases h),hR2.mono ?_⟩
       rintro e W4 (⟨ho2,rfl,hJ5⟩|⟨ho2,rfl,hX5⟩)
       ·exact absurd (ho2.out:dz []=true) (by decide)
       ·have hc4:=xc _ _ hX5
        have hbad:Hid (dc q0=false):=by
         rw [hmore.out,hz2];rfl
        gi_wp2
        refine⟨.inr ⟨_,hX5,?_,hbad⟩,?_⟩
        ·rw [hz2];rfl
        ·have h1:=hsq.out;have h2:=hlq2.out
         rw [hc4,hc,hz2];show 1<p.size
         omega
      ·rename_i hz
       have hz':n2.data.toList≠ []:=by
        rw [ByteArray.toList_eq]at hz;intro h;rw [h]at hz
        cases hz
       have hs2:(⟨#[47]⟩++n2:ByteArray).size=n2.size+1:=by
        rw [ByteArray.size_append];have:(⟨#[47]⟩:ByteArray).size=1:=rfl;omega
       have h1:=hsq.out;have h2:=hlq2.out
       have h3:=ef n2;refine⟨.inl ⟨_,n2.data.toList,hJ4,?_,?_,?_⟩,?_⟩
       ·show _=_
        rw [ByteArray.data_append,Array.toList_append];rfl
       ·show _=_
        rw [hmore.out];unfold dc
        cases hd:n2.data.toList with
        |nil=>exact absurd hd hz'
        |cons x xs=>simp
       ·rw [hs2];omega
       ·rw [(jc _ _ hJ4).1,hc]
        show(⟨#[47]⟩++n2:ByteArray).size<p.size
        rw [hs2];omega
    ·have hc3:=xc _ _ hX3
     have hbad:Hid (dc q0=false):=by
      rw [←hq.out];exact CN hq2.out hcut'.out ho.out
     gi_wp2
     refine bodyPost_ret (results_none rfl _ _ _) rfl ?_;exact⟨⟨_,rfl⟩,.inr ⟨hbad.out,_,hX3⟩⟩
  ·have hc:=xc _ _ hX
   have hp':=hp.out;subst hp'
   gi_wp2
   go_end0
   exact⟨⟨_,rfl⟩,.inr ⟨hq.out,_,hX⟩⟩
end Go.Proofs.YtmmlhdiejkknnaaGreatDoor
namespace Go.Proofs.YtmmlhdiejkknnaaGreatDoor
open Go.RowKit Go.Shelf
attribute [local go_sem] Oper.semAt_some
theorem uo(W:World)(v:Value)(t:TypeId):(W.alloc (.cells #[v] t)).cell? ⟨W.heap.size,0,none⟩=some v∧(W.alloc (.cells #[v] t)).frozen? ⟨W.heap.size,0,none⟩=false:=by
 have h:=World.alloc_heap_new W (.cells #[v] t);constructor
 ·simp only [World.cell?,h];rfl
 ·simp only [World.frozen?,h];rfl
theorem uR{W:World}{p a:Addr}(v:Value)(h:p.block≠a.block):(W.setCell p v).cell? a=W.cell? a:=
 World.cell?_of_block (Below.heap_setCell _ _ _ _ (fun e=>h e.symm))
theorem BX{W:World}{a:Addr}{v:Value}(o:Obj)(h:W.cell? a=some v):(W.alloc o).cell? a=some v:=cell_kept h (World.grownBy_alloc W o none) (fun r e=>by cases e)
theorem vX{W:World}{a:Addr}{v:Value}(o:Obj)(h:W.cell? a=some v)(hf:W.frozen? a=false):(W.alloc o).frozen? a=false:=(frozen_kept h (World.grownBy_alloc W o none) (fun r e=>by cases e)).trans hf
theorem head_of(p:ByteArray)(h:0<p.size)(e:(((p[0]'h).toNat:Nat):Int)=47):∃q,p.data.toList=47::q∧q.length+1=p.size:=by
 obtain⟨⟨l⟩⟩:=p
 cases l with
 |nil=>simp [ByteArray.size]at h
 |cons b l=>
  refine⟨l,?_,rfl⟩;have e':((b.toNat:Nat):Int)=47:=e;have:b=47:=UInt8.toNat_inj.1 (by have h47:(47:UInt8).toNat=47:=rfl;omega);rw [this]
theorem uO(p:ByteArray)(h:¬p.toList= []):0<p.size:=by
 rw [ByteArray.toList_eq]at h;rw [ef];exact List.length_pos_iff.2 h
theorem Dp(p:ByteArray)(q:List UInt8)(hp:p.data.toList=47::q)(h:0<p.size):(((p[0]'h).toNat:Nat):Int)=47:=by
 obtain⟨⟨l⟩⟩:=p;simp at hp;subst hp;rfl
def bR:List UInt8→Bool
 |47::q=>decide (q.length<200)&&dc q
 |_=>false
theorem parts1(p:ByteArray)(w:World):
  Calls Tryz.prog 133 #[.string p] w fun e w'=>e= .returned (.func (.func 213) #[] #[.pointer (some ⟨w.heap.size,0,none⟩)])∧w'=w.alloc (.cells #[.string p] 9):=by
 go_enter Tryz.func133,Tryz.ntmps133
 go_wp2
 go_ret
 exact⟨rfl,rfl⟩
theorem AM{l:List UInt8}(h:∀q,l=47::q→¬q.length<200):bR l=false:=by
 unfold bR
 split
 ·rename_i q
  simp [h q rfl]
 ·rfl
theorem yg{R:Ending→World→Prop}{fn:Func}{a:Act}{w:World}(hd:a.defers= []){v:Value}(hr:(results fn a.tmps).run Tryz.prog w= .ok v w)(h:R (.returned v) w):bodyPostM Fence.wide 5 Tryz.prog fn R .ret a w:=by
 show LeavesInM _ _ _ _ _ _ _ _ _
 rw [hd];exact⟨v,hr,h⟩
structure I0(w0:World)(p:ByteArray)(W:World):Prop where
 ca:W.cell? ⟨w0.heap.size,0,none⟩=some (.bool false)
 fa:W.frozen? ⟨w0.heap.size,0,none⟩=false
 cb:W.cell? ⟨w0.heap.size+1,0,none⟩=some (.string p)
 fb:W.frozen? ⟨w0.heap.size+1,0,none⟩=false
 bl:Below w0.heap.size w0 W
theorem I0.own{w0:World}{p:ByteArray}{W W':World}{row:Option Nat}(h:I0 w0 p W)(hg:W.grownBy W' row)(hr:∀r,row=some r→w0.heap.size≤r∧∃o:Obj,W.heap[r]? =some o∧o.isCells=false):I0 w0 p W':=
 ⟨cell_kept h.ca hg (fun r e=>(hr r e).2),(frozen_kept h.ca hg (fun r e=>(hr r e).2)).trans h.fa,cell_kept h.cb hg (fun r e=>(hr r e).2),(frozen_kept h.cb hg (fun r e=>(hr r e).2)).trans h.fb,h.bl.grown hg h.bl.size (fun k e=>(hr k e).1)⟩
theorem I0.put{w0:World}{p:ByteArray}{W:World}{k:Nat}{o:Obj}(o':Obj)(h:I0 w0 p W)(hk:w0.heap.size≤k)(ho:W.heap[k]? =some o)(hc:o.isCells=false):I0 w0 p (W.putObj k o'):=
 h.own (grownBy_putObj' W k o') (fun r e=>by cases e;exact⟨hk,o,ho,hc⟩)
theorem I0.alloc{w0:World}{p:ByteArray}{W:World}(o:Obj)(h:I0 w0 p W):I0 w0 p (W.alloc o):=
 h.own (World.grownBy_alloc W o none) (fun r e=>by cases e)
theorem I0.drew{w0:World}{p:ByteArray}{W:World}(k:Nat)(h:I0 w0 p W):I0 w0 p (W.drewN k):=
 ⟨h.ca,h.fa,h.cb,h.fb,below_drewN h.bl k⟩
theorem I0.set{w0:World}{p:ByteArray}{W:World}(p':ByteArray)(h:I0 w0 p W):I0 w0 p' (W.setCell ⟨w0.heap.size+1,0,none⟩ (.string p')):=by
 refine⟨?_,?_,?_,?_,h.bl.setCell (by simp) _⟩
 ·exact(uR _ (by show _≠_;simp)).trans h.ca
 ·rw [World.frozen?_setCell];exact h.fa
 ·exact World.cell?_setCell_same' _ _ _ (by rw [h.cb];rfl)
 ·rw [World.frozen?_setCell];exact h.fb
def bodyEnd(w0:World)(p x:ByteArray)(W:World):Exit→Act→World→Prop
 | .normal,_,W'=>Hid (dz x.data.toList=true)∧KeepsOthers W W'∧I0 w0 p W'
 | .ret,_,W'=>Hid (dz x.data.toList=false)∧KeepsOthers W W'∧I0 w0 p W'
 |_,_,_=>False
theorem loop0{n:Nat}(hn:3≤n){t:Tmp}{g:Operand}{assign body:Code}{Q:Exit→Act→World→Prop}{a:Act}{w0 w:World}(hw:w0.heap.size+2≤w.heap.size)
  (hg:a.eval g= .func (.func 213) #[] #[.pointer (some ⟨w0.heap.size+1,0,none⟩)]) (p0:ByteArray) (q0:List UInt8) (hp0:Hid (p0.data.toList=47::q0)) (hsz:p0.size≤200)
  (hI:I0 w0 p0 w) (a₁:ByteArray→Act)
  (hassign:∀(l:Nat) (x:ByteArray) (W:World) (K:Act→World→Prop),K (a₁ x) W→
    assign.wpIn (Fence.wide.inRound l) (n-1-1) Tryz.prog (Exit.then K (fun _ _ _=>False)) { tmps:=((#[t]:Array Tmp).zip #[Value.string x]).foldl (fun t (p,v)=>t.setIfInBounds p v) a.tmps,defers:= [] } W)
  (hbody:∀(l:Nat) (p x:ByteArray) (W:World),I0 w0 p W→body.wpIn (Fence.wide.inRound l) (n-1-1) Tryz.prog (bodyEnd w0 p x W) (a₁ x) W)
  (hdone:∀(D:Nat) (p:ByteArray) (W:World),w0.heap.size≤D→Hid (dc q0=true)→I0 w0 p W→W.heap[D]? =some (.deferred (some []))→Q .normal { a with defers:= { target:= .collected D,args:= #[] } ::a.defers } W)
  (hstop:∀(D:Nat) (p:ByteArray) (W:World),w0.heap.size≤D→Hid (dc q0=false)→I0 w0 p W→W.heap[D]? =some (.deferred (some []))→Code.ret.wpIn Fence.wide n Tryz.prog Q { a with defers:= { target:= .collected D,args:= #[] } ::a.defers } W):
  (Code.rangeFunc g #[t] assign body).wpIn Fence.wide n Tryz.prog Q a w:=by
 refine wpIn_rangeFunc ?_;intro fn hfn;obtain⟨rec,hrec⟩:∃rec:LoopState→Option Code→Loop,rec=fun st pe=> { state:=st,pending:=pe,fn,tmps:=a.tmps,params:= #[t],assign,body,defers:=w.heap.size } :=⟨_,rfl⟩
 obtain⟨W1,hW1⟩:∃W1,(w.alloc (.deferred (some []))).alloc (.loop (rec .ready none))=W1:=⟨_,rfl⟩
 have hL1:W1.heap[w.heap.size+1]? =some (.loop (rec .ready none)):=by
  rw [←hW1];have:=World.alloc_heap_new (w.alloc (.deferred (some []))) (.loop (rec .ready none));rwa [World.size_alloc]at this
 have hK1:W1.heap[w.heap.size]? =some (.deferred (some [])):=by
  rw [←hW1];exact(Below.heap_alloc _ _ _ (by simp)).trans (World.alloc_heap_new w _)
 have hI1:I0 w0 p0 W1:=by rw [←hW1];exact(hI.alloc _).alloc _
 have eg:∀args w,(callFunc 213 args).run Tryz.prog w= .ok (.enter 213 args) w:=enters_of Tryz.func213 (by kernel_rfl) rfl
 refine⟨w.heap.size+1, [{ target:= .collected w.heap.size,args:= #[] }],W1, { target:= .fn (.func 213) #[.pointer (some ⟨w0.heap.size+1,0,none⟩)],args:= #[.func (.yield (w.heap.size+1)) #[] #[]] },W1,213,
  #[.func (.yield (w.heap.size+1)) #[] #[]]++ #[.pointer (some ⟨w0.heap.size+1,0,none⟩)],W1,?_,?_,?_,?_,fun h=>(by cases h),?_⟩
 ·rw [←hW1,hrec];exact run_enterLoop_outer _ _ _ _ _
 ·simp only [resolve,hg]
  simp [go_sem]
 ·intro f' hf';trivial
 ·simp [invoke,go_sem,eg]
 ·refine(iter1 (n-1) (by omega) (w.heap.size+1) (w0.heap.size+1)
    (fun p W=>I0 w0 p W∧W.heap[w.heap.size+1]? =some (.loop (rec .ready none))∧W.heap[w.heap.size]? =some (.deferred (some [])))
    (fun p W=>I0 w0 p W∧W.heap[w.heap.size+1]? =some (.loop (rec .done (some .ret)))∧W.heap[w.heap.size]? =some (.deferred (some [])))
    (fun p W h=>⟨h.1.cb,h.1.fb⟩) (fun p W h=>h.1.cb) (fun p W k h=>⟨h.1.drew k,h.2.1,h.2.2⟩)
    (fun p p' W h=>⟨h.1.set p',(Below.heap_setCell _ _ _ _ (by show _≠w0.heap.size+1;omega)).trans h.2.1,(Below.heap_setCell _ _ _ _ (by show _≠w0.heap.size+1;omega)).trans h.2.2⟩)
    ?_ p0 q0 hp0 hsz W1 ⟨hI1,hL1,hK1⟩).mono ?_
  ·
   rintro p x W ⟨hi,hl,hk⟩
   have hlt:w.heap.size+1<W.heap.size:=(Array.getElem?_eq_some_iff.1 hl).1;have hy:=run_yield (P:=Tryz.prog) (args:= #[.string x]) hl (by rw [hrec];rfl);rw [hrec]at hy;refine⟨fn,_,assign,body,hy,roundIn_of_wpIn hfn (hassign _ x W _ ⟨_,run_beginRound hl (by rw [hrec]),?_⟩)⟩;have hl2:(W.putObj (w.heap.size+1) (.loop { rec .ready none with state:= .busy })).heap[w.heap.size+1]? =some (.loop { rec .ready none with state:= .busy }):=World.putObj_heap_same hlt;have hk2:(W.putObj (w.heap.size+1) (.loop { rec .ready none with state:= .busy })).heap[w.heap.size]? =some (.deferred (some [])):=(World.putObj_heap_other (by omega)).trans hk;refine wpIn_mono (hbody _ p x _ (hi.put _ (by omega) hl rfl)) ?_
   have fin:∀(jump:Option Code) (W3:World),KeepsOthers (W.putObj (w.heap.size+1) (.loop { rec .ready none with state:= .busy })) W3→
     (Instr.endRound (w.heap.size+1) jump).run Tryz.prog W3= .ok (.bool jump.isNone) (W3.putObj (w.heap.size+1) (.loop (rec (if jump.isNone then .ready else .done) jump)))∧
     W3.heap[w.heap.size+1]? =some (.loop { rec .ready none with state:= .busy })∧
     (W3.putObj (w.heap.size+1) (.loop (rec (if jump.isNone then .ready else .done) jump))).heap[w.heap.size+1]? =some (.loop (rec (if jump.isNone then .ready else .done) jump))∧
     (W3.putObj (w.heap.size+1) (.loop (rec (if jump.isNone then .ready else .done) jump))).heap[w.heap.size]? =some (.deferred (some [])):=fun jump W3 hk3=>by
    have hl3:=hk3.same _ _ hl2 rfl;have:=run_endRound (P:=Tryz.prog) jump hl3;rw [hrec]at this ⊢;exact⟨this,by rw [hrec]at hl3;exact hl3,World.putObj_heap_same (Array.getElem?_eq_some_iff.1 hl3).1,(World.putObj_heap_other (by omega)).trans (hk3.same _ _ hk2 rfl)⟩
   rintro e a3 W3 hp
   cases e with
   |normal=>
    obtain⟨ho,hk3,hi3⟩:=hp;obtain⟨hr,hl3,hl4,hk4⟩:=fin none W3 hk3;exact⟨_,_,hr,.inl ⟨ho,rfl,hi3.put _ (by omega) hl3 rfl,hl4,hk4⟩⟩
   |ret=>
    obtain⟨ho,hk3,hi3⟩:=hp;obtain⟨hr,hl3,hl4,hk4⟩:=fin (some .ret) W3 hk3;exact⟨_,_,hr,.inr ⟨ho,rfl,hi3.put _ (by omega) hl3 rfl,hl4,hk4⟩⟩
   |exit id=>exact hp.elim
   |goto t=>exact hp.elim
   |panic ch=>exact hp.elim
   |outgrown=>exact hp.elim
  ·
   rintro e W2 ⟨⟨v,rfl⟩,(⟨hS,p,hi,hl,hk⟩|⟨hS,p,hi,hl,hk⟩)⟩
   ·exact⟨none,_,by have:=run_endLoop (P:=Tryz.prog) hl (by rw [hrec];simp);rw [hrec]at this;exact this,hdone _ p _ (by omega) hS (hi.put _ (by omega) hl rfl) ((World.putObj_heap_other (by omega)).trans hk)⟩
   ·exact⟨some .ret,_,by have:=run_endLoop (P:=Tryz.prog) hl (by rw [hrec];simp);rw [hrec]at this;exact this,hstop _ p _ (by omega) hS (hi.put _ (by omega) hl rfl) ((World.putObj_heap_other (by omega)).trans hk)⟩
theorem check0(p:ByteArray)(w:World):
  CallsIn Fence.wide 5 Tryz.prog 74 #[.string p] w fun e w'=>e= .returned (.bool (bR p.data.toList))∧Below w.heap.size w w':=by
 have hb1:Below w.heap.size w (w.alloc (.cells #[.bool false] 4)):=(Below.refl _ w).alloc (Nat.le_refl _) _;have hcA:=(uo w (.bool false) 4).1;have hfA:=(uo w (.bool false) 4).2
 by_cases hbad:∀q,p.data.toList=47::q→¬q.length<200
 ·have hno:Hid (bR p.data.toList=false):=AM hbad
  have hbad':Hid (∀q,p.data.toList=47::q→¬q.length<200):=hbad;clear hbad;refine callsIn_of_wp_marks Tryz.func74 rfl trivial ?_ rfl;simp only [Tryz.ntmps74,List.size_toArray,List.length_cons,List.length_nil,Nat.reduceAdd,Nat.reduceSub,Array.replicate_succ,Array.replicate_zero,List.push_toArray,List.append_toArray,List.nil_append,List.cons_append]
  gi_wp2
  ·refine yg rfl (v:= .bool false) ?_ ⟨by rw [hno.out],hb1⟩
   simp [results,Tryz.f74,go_sem,hcA]
  ·refine yg rfl (v:= .bool false) ?_ ⟨by rw [hno.out],hb1⟩
   simp [results,Tryz.f74,go_sem,hcA]
  ·exfalso
   rename_i g1 g2 g3 g4 _ _ _ _ _ _;obtain⟨q,h1,h2⟩:=head_of p g2 g3;exact hbad'.out q h1 (by have:=g4.2;omega)
  ·refine yg rfl (v:= .bool false) ?_ ⟨by rw [hno.out],hb1⟩
   simp [results,Tryz.f74,go_sem,hcA]
  ·exfalso
   rename_i g1 _ _ g3;exact g3 (uO p g1)
 ·obtain⟨q,hq⟩:=Classical.not_forall.1 hbad
  obtain⟨hp,hlen⟩:=Classical.not_imp.1 hq;have hlen':q.length<200:=Classical.not_not.1 hlen;have hsz:p.size=q.length+1:=by rw [ef,hp];rfl
  have hpos:0<p.size:=by omega
  have hhd:=Dp p q hp hpos;have hp':Hid (p.data.toList=47::q):=hp;have hsz':Hid (p.size=q.length+1):=hsz;have hle:(p.size:Int)≤200:=by omega
  have hee:p.toList.isEmpty=false:=by rw [ByteArray.toList_eq,hp];rfl
  have hok:Hid (bR p.data.toList=dc q):=by
   show _=_
   rw [hp];unfold bR;simp [hlen']
  clear hbad hq hlen hlen' hp hsz;refine callsIn_of_wp_marks Tryz.func74 rfl trivial ?_ rfl;simp only [Tryz.ntmps74,List.size_toArray,List.length_cons,List.length_nil,Nat.reduceAdd,Nat.reduceSub,Array.replicate_succ,Array.replicate_zero,List.push_toArray,List.append_toArray,List.nil_append,List.cons_append]
  gi_wp2
  refine⟨trivial,(callsIn_wide.2 (parts1 _ _)).mono ?_⟩
  rintro e w' ⟨rfl,rfl⟩
  gi_wp2
  have hI:I0 w p ((w.alloc (.cells #[.bool false] 4)).alloc (.cells #[.string p] 9)):=by
   have h:=uo (w.alloc (.cells #[.bool false] 4)) (.string p) 9;rw [World.size_alloc]at h;exact⟨BX _ hcA,vX _ hcA hfA,h.1,h.2,hb1.alloc (by simp) _⟩
  refine loop0 (by omega) (w0:=w) (by simp) rfl p q hp' (by omega) hI
   (fun x=> { tmps:= #[.string p,undef,.pointer (some ⟨w.heap.size,0,none⟩),.string x,.string p,.bool false,.bool false,.string p,.int .u8 47,.bool false,.bool false,.bool false,.string p,.int .i64 p.size,.bool (decide (200<(p.size:Int))),.bool (decide (200<(p.size:Int))),.string p,.func (.func 213) #[] #[.pointer (some ⟨w.heap.size+1,0,none⟩)],.string x,undef,undef,undef],defers:= [] }) ?assign ?body ?done ?stop
  case assign=>
   intro l x W K hK
   gi_wp2
   exact hK
  case body=>
   intro l p1 x W h1;have hca:=h1.ca;have hfa:=h1.fa
   gi_wp2
   refine⟨trivial,(CallsIn.inRound l (callsIn_wide.2 (part1 x W))).mono ?_⟩
   rintro e W2 ⟨rfl,pos,rfl⟩
   have hi2:I0 w p1 (W.iter x pos):=h1.alloc _;have hk2:KeepsOthers W (W.iter x pos):=KeepsOthers.alloc W _;have hca2:=hi2.ca;have hfa2:=hi2.fa
   cases hx:dz x.data.toList with
   |true=>
    have hx':Hid (dz x.data.toList=true):=hx;clear hx
    gi_wp2
    exact⟨hx',hk2,hi2⟩
   |false=>
    have hx':Hid (dz x.data.toList=false):=hx;clear hx
    gi_wp2
    refine⟨hx',hk2.trans (KeepsOthers.setCell _ _ _),?_,?_,?_,?_,?_⟩
    ·exact World.cell?_setCell_same' _ _ _ (by rw [hca2];rfl)
    ·rw [World.frozen?_setCell];exact hfa2
    ·exact(uR _ (by show _≠_;simp)).trans hi2.cb
    ·rw [World.frozen?_setCell];exact hi2.fb
    ·exact hi2.bl.setCell (p:=⟨w.heap.size,0,none⟩) (Nat.le_refl _) _
  case done=>
   intro D p1 W hD hr h1 hK;have hca:=h1.ca;have hfa:=h1.fa
   gi_wp2
   have hK':=(KeepsOthers.setCell W ⟨w.heap.size,0,none⟩ (.bool true)).same D _ hK rfl;refine⟨by simp,.inl ⟨_,_,rfl,run_takeDeferred hK',?_⟩⟩;have hc5:=cell_kept (World.cell?_setCell_same' W ⟨w.heap.size,0,none⟩ (.bool true) (by rw [hca];rfl)) (grownBy_putObj' _ D (.deferred none)) (fun r e=>by cases e;exact⟨_,hK',rfl⟩);refine⟨.bool true,?_,by rw [hok.out,hr.out],(h1.bl.setCell (p:=⟨w.heap.size,0,none⟩) (Nat.le_refl _) _).trans (belowK_b (w:=w) (Nat.le_refl _) _ D _ _ hD hK' rfl rfl)⟩;simp [results,Tryz.f74,go_sem,hc5]
  case stop=>
   intro D p1 W hD hr h1 hK
   gi_wp2
   refine⟨by simp,.inl ⟨_,_,rfl,run_takeDeferred hK,?_⟩⟩;have hc5:=cell_kept h1.ca (grownBy_putObj' _ D (.deferred none)) (fun r e=>by cases e;exact⟨_,hK,rfl⟩);refine⟨.bool false,?_,by rw [hok.out,hr.out],h1.bl.trans (belowK_b (w:=w) (Nat.le_refl _) W D _ _ hD hK rfl rfl)⟩;simp [results,Tryz.f74,go_sem,hc5]
theorem uk(p:ByteArray)(w:World):Calls Tryz.prog 74 #[.string p] w fun e w'=>e= .returned (.bool (bR p.data.toList))∧Below w.heap.size w w':=callsIn_wide.1 (check0 p w)
#print axioms uk
end Go.Proofs.YtmmlhdiejkknnaaGreatDoor
namespace Go.Proofs.YtmmlhdiejkknnaaGreatDoor
open Go.Sx Go.RowKit Go.Shelf
def Et:CT:=fun args h K=>match args with
 | [.v (.string s)]=>K (.v (.bool (bR s.data.toList))) h
 | [.str l]=>K (.v (.bool (bR l))) h
 |_=>false
def ctIdx:CT:=fun args h K=>match args with
 | [.v (.string s),.v (.int .u8 c)]=>K (.v (.int .i64 (Lib.indexByte s.data.toList c.toNat.toUInt8))) h
 | [.str l,.v (.int .u8 c)]=>K (.v (.int .i64 (Lib.indexByte l c.toNat.toUInt8))) h
 |_=>false
def C0:FuncId→Option CT:=fun f=>bif Nat.beq f 74 then some Et else bif Nat.beq f 300 then some ctIdx else none
theorem nf:aI Tryz.prog C0:=by
 intro f ct h args h0 K hk ρ w H hargs;unfold C0 at h
 cases h1:Nat.beq f 74 with
 |true=>
  rw [h1]at h;have:=Nat.eq_of_beq_eq_true h1;subst this;simp only [cond_true,Option.some.injEq]at h;subst h;unfold Et at hk
  split at hk
  ·rename_i s
   exact lE Tryz.func74 (by kernel_rfl) rfl (uk s w) H hk rfl trivial
  ·rename_i l
   exact lE Tryz.func74 (by kernel_rfl) rfl (uk ⟨l.toArray⟩ w) H hk rfl trivial
  ·exact absurd hk Bool.false_ne_true
 |false=>
  rw [h1]at h;simp only [cond_false]at h
  cases h2:Nat.beq f 300 with
  |true=>
   rw [h2]at h;have:=Nat.eq_of_beq_eq_true h2;subst this;simp only [cond_true,Option.some.injEq]at h;subst h
   have key:∀(s:ByteArray) (c:Int),(callFunc 300 #[.string s,.int .u8 c]).run Tryz.prog w= .ok (.value (.int .i64 (Lib.indexByte s.data.toList c.toNat.toUInt8))) w:=fun s c=>by
    rw [run_callFunc_extern Tryz.func300 (by kernel_rfl) (by kernel_rfl) (by kernel_rfl) (e:=Extern.BytealgIndexByte.indexByte) (by kernel_rfl),Lib.run_indexByteString];rfl
   unfold ctIdx at hk
   split at hk
   ·rename_i s c
    exact lD (key s c) H hk rfl trivial
   ·rename_i l c
    exact lD (key ⟨l.toArray⟩ c) H hk rfl trivial
   ·exact absurd hk Bool.false_ne_true
  |false=>rw [h2]at h;cases h
end Go.Proofs.YtmmlhdiejkknnaaGreatDoor
namespace Go.Proofs.YtmmlhdiejkknnaaGreatDoor
open Go.Sx Go.RowKit
noncomputable section
open Classical
def ga(l:List UInt8):Value:= .string ⟨l.toArray⟩
theorem y6{A:aa}{g o n:Nat}{ls:List (List UInt8)}(h:A.rd g o (n*1)=some (ls.map ga))(k:Nat)(hk:k<ls.length)(hn:n=ls.length):A.rd g (o+k*1) 1=some [.string ⟨ls[k].toArray⟩]:=by
 rw [ir h (i:=k*1) (m:=1) (by omega)];congr 1;refine List.ext_getElem? fun i=> ?_
 cases i with
 |zero=>simp [hk,ga]
 |succ i=>
  simp;omega
def eV:ByteArray:=⟨#[47]⟩
def bx(q:ByteArray):List UInt8:=q.data.toList
structure aO where
 path:ByteArray
 data:List UInt8
 stat:ec
def bytesOf(l:List UInt8):ByteArray:=⟨l.toArray⟩
theorem iJ(q:ByteArray):bytesOf (bx q)=q:=by
 obtain⟨⟨l⟩⟩:=q;rfl
def cV(x:aO×Value):List Value:= .string x.1.path::x.2::x.1.stat.cells
theorem zJ{α:Type}(enc:α→List Value)(k:Nat)(hk:∀x,(enc x).length=k):∀(l:List α) (i:Nat) (hi:i<l.length),((l.flatMap enc).drop (i*k)).take k=enc l[i]
 | [],i,hi=>by simp at hi
 |x::l,0,_=>by
  rw [Nat.zero_mul,List.drop_zero,List.flatMap_cons,List.take_append_of_le_length (by rw [hk];omega),List.take_of_length_le (by rw [hk];omega)];rfl
 |x::l,i+1,hi=>by
  rw [List.flatMap_cons,Nat.succ_mul,Nat.add_comm,←List.drop_drop,List.drop_left' (hk x)];exact zJ enc k hk l i (by simpa using hi)
theorem Ec{α:Type}(enc:α→List Value)(k:Nat)(hk:∀x,(enc x).length=k)(l:List α):(l.flatMap enc).length=l.length*k:=by
 induction l with
 |nil=>simp
 |cons x l ih=>rw [List.flatMap_cons,List.length_append,hk,ih,List.length_cons,Nat.succ_mul];omega
theorem eI{α:Type}{enc:α→List Value}{k:Nat}(hk:∀x,(enc x).length=k){A:aa}{g o n:Nat}{l:List α}(h:A.rd g o (n*k)=some (l.flatMap enc))(i:Nat)(hi:i<l.length)(hn:n=l.length):A.rd g (o+i*k) k=some (enc l[i]):=by
 have hle:i*k+k≤n*k:=by rw [←Nat.succ_mul];exact Nat.mul_le_mul_right _ (by omega)
 rw [ir h (i:=i*k) (m:=k) hle,zJ enc k hk l i hi]
def kO(D:aa)(v:Value)(ns:List aO):Prop:=∃l:List (aO×Value),l.map (·.1)=ns∧Sl D 12 ns.length v (l.flatMap cV)∧∀x∈l,SlB D x.2 x.1.data
def eL(A:aa)(v:Value)(l:List (aO×Value)):Prop:=Sl A 12 l.length v (l.flatMap cV)∧∀x∈l,SlB A x.2 x.1.data
theorem kY{A B:aa}{v:Value}{ns:List aO}(h:kO A v ns)(hs:A.Sub B):∃l:List (aO×Value),l.map (·.1)=ns∧eL B v l:=by
 obtain⟨l,h1,h2,h3⟩:=h;have hl:l.length=ns.length:=by rw [←h1,List.length_map]
 exact⟨l,h1,by rw [hl];exact h2.sub hs,fun x hx=>(h3 x hx).sub hs⟩
def cz(s:bn):List Value:= [.int .i64 s.ses,.int .i64 s.tmo,.int .i64 s.turn]
def SlS(A:aa)(v:Value)(l:List bn):Prop:=Sl A 3 l.length v (l.flatMap cz)∧l.length≤140737488351232
abbrev tM(n:Nat):Value:= .int .i64 n
theorem Cl{k:Nat}(h:k<9223372036854775807):IntKind.i64.wrap ((k:Int)+1)=((k+1:Nat):Int):=by
 have h1:=bf h;injection h1 with h1
 injection h1 with h1
 injection h1
def iM(s:ec):Prop:=0≤s.czxid∧0≤s.mzxid∧0≤s.pzxid∧0≤s.ctime∧0≤s.mtime∧0≤s.ver∧0≤s.cver∧0≤s.owner∧0≤s.len∧0≤s.kids
def bM(x:aO):Prop:=bR x.path.data.toList=true∧x.data.length≤1000∧iM x.stat
def EY(l:List aO):Prop:=(∀x∈l,bM x)∧(l.Pairwise fun a b=>ltL (bx a.path) (bx b.path)=true)∧∃x,l.head? =some x∧x.path=eV
def hF(l:List aO):Prop:=(∀i (h:i<l.length),bM l[i]∧(0<i→ltL (bx l[i-1].path) (bx l[i].path)=true))∧∃x,l.head? =some x∧x.path=eV
theorem DO{l:List aO}(h:EY l):hF l:=by
 refine⟨fun i hi=>⟨h.1 _ (List.getElem_mem hi),fun h0=> ?_⟩,h.2.2⟩;have:=List.pairwise_iff_getElem.1 h.2.1 (i-1) i (by omega) hi (by omega);exact this
theorem qB{l:List (aO×Value)}{k:Nat}(hk:k<l.length)(h:¬(bM l[k].1∧(0<k→ltL (bx l[k-1].1.path) (bx l[k].1.path)=true))):¬hF (l.map (·.1)):=fun hc=>h (by
 have:=hc.1 k (by rw [List.length_map];exact hk)
 simpa using this)
theorem sD{l:List (aO×Value)}(h:∀i (h:i<l.length),bM l[i].1∧(0<i→ltL (bx l[i-1].1.path) (bx l[i].1.path)=true))(hr:∃x,(l.map (·.1)).head? =some x∧x.path=eV):hF (l.map (·.1)):=
 ⟨fun i hi=>by
   have:=h i (by rw [List.length_map]at hi;exact hi)
   simpa using this,hr⟩
theorem pr:∀(l m:List UInt8),ltL l m=true↔l<m
 | [], []=>by simp [ltL]
 |_::_, []=>by simp [ltL]
 | [],_::_=>by simp [ltL]
 |a::l,b::m=>by
  rw [List.cons_lt_cons_iff,←pr l m];simp only [ltL]
  by_cases h:a<b
  ·have h':a.toNat<b.toNat:=UInt8.lt_iff_toNat_lt.1 h
   have hb:Nat.blt a.toNat b.toNat=true:=Nat.ble_eq.mpr h';simp [hb,h]
  ·have h':¬a.toNat<b.toNat:=fun x=>h (UInt8.lt_iff_toNat_lt.2 x)
   have hb:Nat.blt a.toNat b.toNat=false:=by
    cases hx:Nat.blt a.toNat b.toNat with
    |false=>rfl
    |true=>exact absurd (Nat.le_of_ble_eq_true hx) h'
   by_cases e:a=b
   ·subst e
    simp [hb,h]
   ·have he:Nat.beq a.toNat b.toNat=false:=by
      cases hx:Nat.beq a.toNat b.toNat with
      |false=>rfl
      |true=>exact absurd (UInt8.toNat_inj.1 (Nat.eq_of_beq_eq_true hx)) e
    simp [hb,he,h,e]
theorem DI{a b:List UInt8}(h:ltL a b=true):(ltL b a||jU b a)=false:=by
 have h1:=(pr a b).1 h;rw [Bool.or_eq_false_iff];constructor
 ·cases hx:ltL b a with
  |false=>rfl
  |true=>exact absurd ((pr b a).1 hx) (List.lt_asymm h1)
 ·cases hx:jU b a with
  |false=>rfl
  |true=>
   have e:=bu.1 hx;subst e;exact absurd h1 (List.lt_irrefl _)
theorem ln{a b:ByteArray}(h:a.data.toList=b.data.toList):a=b:=by
 obtain⟨⟨a⟩⟩:=a;obtain⟨⟨b⟩⟩:=b
 obtain rfl:a=b:=h;rfl
theorem tP:∀ {l m:List UInt8},ltL l m=false→ltL m l=false→l=m
 | [], [],_,_=>rfl
 |_::_, [],_,h=>by simp [ltL]at h
 | [],_::_,h,_=>by simp [ltL]at h
 |a::l,b::m,h1,h2=>by
  simp only [ltL]at h1 h2
  cases hab:Nat.blt a.toNat b.toNat with
  |true=>rw [hab]at h1;cases h1
  |false=>
   cases hba:Nat.blt b.toNat a.toNat with
   |true=>rw [hba]at h2;cases h2
   |false=>
    have h3:¬a.toNat<b.toNat:=fun h=>by
     have:Nat.blt a.toNat b.toNat=true:=Nat.ble_eq.mpr h;rw [hab]at this;cases this
    have h4:¬b.toNat<a.toNat:=fun h=>by
     have:Nat.blt b.toNat a.toNat=true:=Nat.ble_eq.mpr h;rw [hba]at this;cases this
    have e:a.toNat=b.toNat:=by omega
    have hb1:Nat.beq a.toNat b.toNat=true:=by rw [e];exact Nat.beq_refl _
    have hb2:Nat.beq b.toNat a.toNat=true:=by rw [e];exact Nat.beq_refl _
    rw [hab,hb1]at h1;rw [hba,hb2]at h2;rw [UInt8.toNat_inj.1 e,tP h1 h2]
theorem zq{a b:List UInt8}(h:(ltL b a||jU b a)=false):ltL a b=true:=by
 rw [Bool.or_eq_false_iff]at h
 cases hx:ltL a b with
 |true=>rfl
 |false=>
  have e:=tP hx h.1;subst e;exact absurd rfl (cr.1 h.2)
def oh(l:List (aO×Value)):Prop:=∀x∈l,x.1.path.data.toList.length≤140737488351232
def fG(l:List UInt8)(c:UInt8):Nat→Int
 |0=> -1
 |n+1=>if l[n]? =some c then n else fG l c n
def dB(l:List UInt8)(c:UInt8):Int:=fG l c l.length
theorem sF(l:List UInt8)(c:UInt8):∀n, -1≤fG l c n∧fG l c n<n
 |0=>by simp [fG]
 |n+1=>by
  simp only [fG]
  split
  ·omega
  ·have:=sF l c n
   omega
def lastInv(A:aa)(l:List UInt8)(c:UInt8):fj:= { γ:=Nat,G:=fun n=>n≤l.length∧fG l c n=dB l c,keepS:= [0,1],keepB:= [],sl:=fun n=> [(5,.v (.int .i64 ((n:Int)-1)))],bl:=fun _=> [],ar:=fun _=>A,mu:=fun n=>n }
def vE:aY:=⟨ByteArray×UInt8,fun g vs _=>vs= [.string g.1,.int .u8 g.2.toNat]∧g.1.data.toList.length≤140737488351232,fun g _ A v A'=>A'=A∧v= .int .i64 (dB g.1.data.toList g.2)⟩
theorem last_ok:FOk Tryz.prog 257 vE:=by
 refine bG mixed fun⟨s,c⟩ vs A hp=> ?_
 simp only [vE]at hp;obtain⟨rfl,hsz⟩:=hp;refine⟨noC,ic Tryz.prog noC noL 60 [(257,0)],60,aA _,bg mixed (aA _) (az _) _ _,fun blk os out tape D hD=> ?_⟩;conv=>lhs;whnf
 have hw0:IntKind.i64.wrap ((s.data.toList.length:Int)-1)=(s.data.toList.length:Int)-1:=yZ (by omega) (by omega);refine(hD _).2 ⟨lastInv A s.data.toList c,⟨s.data.toList.length,⟨Nat.le_refl _,rfl⟩,⟨congrArg (fun x=>some (SV.v (.int .i64 x))) hw0,trivial⟩,trivial,rfl⟩,fun(n:Nat) hn=>⟨⟨trivial,trivial⟩,trivial,?_⟩⟩;obtain⟨hn,hl⟩:n≤s.data.toList.length∧fG s.data.toList c n=dB s.data.toList c:=hn;conv=>lhs;whnf
 refine af (fun h0=> ?_) (fun h0=> ?_)
 ·obtain⟨m,rfl⟩:∃m,n=m+1:=⟨n-1,by omega⟩
  have h1:((m+1:Nat):Int)-1=(m:Int):=by omega
  conv=>lhs;whnf
  refine cO ⟨by omega,by show((m+1:Nat):Int)-1<(s.data.toList.length:Int);omega⟩ ?_;conv=>lhs;whnf
  have hg:s.data.toList.getD (((m+1:Nat):Int)-1).toNat 0=s.data.toList[m]:=by
   rw [h1,Int.toNat_natCast,List.getD_eq_getElem?_getD,List.getElem?_eq_getElem (by omega)];rfl
  have hgm:s.data.toList[m]? =some s.data.toList[m]:=List.getElem?_eq_getElem (by omega);refine af (fun he=> ?_) (fun he=> ?_)
  ·conv=>lhs;whnf
   have he:(s.data.toList[m]).toNat=c.toNat:=by rw [←hg];exact Int.ofNat.inj he
   have hc:s.data.toList[m]=c:=UInt8.toNat_inj.1 he;refine(hD _).2 ⟨rfl,?_⟩;rw [←hl,h1];simp only [fG,hgm,hc,if_true]
  ·conv=>lhs;whnf
   have hc:s.data.toList[m]≠c:=fun e=>he (by rw [hg,e])
   have hw:IntKind.i64.wrap (((m+1:Nat):Int)-1-1)=(m:Int)-1:=by rw [h1];exact yZ (by omega) (by omega)
   refine(hD _).2 ⟨m,⟨⟨by omega,?_⟩,⟨congrArg (fun x=>some (SV.v (.int .i64 x))) hw,trivial⟩,trivial,rfl⟩,by show m<m+1;omega,⟨rfl,rfl,trivial⟩,trivial⟩;rw [←hl];simp only [fG,hgm,Option.some.injEq,hc,if_false]
 ·conv=>lhs;whnf
  have:n=0:=by omega
  subst this;exact(hD _).2 ⟨rfl,by rw [←hl];rfl⟩
theorem Bi:FOk Tryz.prog 189 vE:=by
 refine bG mixed fun⟨s,c⟩ vs A hp=> ?_
 obtain⟨rfl,hsz⟩:vs= [.string s,.int .u8 c.toNat]∧s.data.toList.length≤140737488351232:=hp
 have hC:aI Tryz.prog (bQ [aM 257 vE] noC):=aD (aA _) (fun x hx=>by
  simp only [List.mem_singleton]at hx
  subst hx;exact au last_ok)
 refine⟨_,noL,60,hC,az _,fun blk os out tape D hD=> ?_⟩;conv=>lhs;whnf
 refine(hD _).2 ⟨(s,c),⟨rfl,hsz⟩,fun v A' hq=> ?_⟩;obtain⟨rfl,rfl⟩:A'=A∧v= .int .i64 (dB s.data.toList c):=hq;conv=>lhs;whnf
 exact(hD _).2 ⟨rfl,rfl⟩
def wq(l:List UInt8):List UInt8×List UInt8:=
 if bR l=true∧l≠ [47]then(l.take (max (dB l 47) 1).toNat,l.drop (dB l 47+1).toNat)else([], [])
theorem vh{l:List UInt8}(h:bR l=true):∃q,l=47::q∧q.length<200∧0≤dB l 47:=by
 unfold bR at h
 split at h
 ·rename_i q
  simp only [Bool.and_eq_true,decide_eq_true_eq]at h;refine⟨q,rfl,h.1,?_⟩
  have key:∀n,0≤fG (47::q) 47 (n+1):=fun n=>by
   induction n with
   |zero=>simp [fG]
   |succ n ih=>
    rw [fG]
    split
    ·omega
    ·exact ih
  exact key q.length
 ·cases h
def cutS:aY:=⟨ByteArray,fun s vs _=>vs= [.string s],fun s _ A v A'=>A'=A∧v= .tuple #[.string ⟨(wq s.data.toList).1.toArray⟩,.string ⟨(wq s.data.toList).2.toArray⟩]⟩
theorem cut_ok:FOk Tryz.prog 122 cutS:=by
 refine bG mixed fun s vs A hp=> ?_
 obtain rfl:vs= [.string s]:=hp
 have hC:aI Tryz.prog (bQ [aM 189 vE] C0):=aD nf (fun x hx=>by
  simp only [List.mem_singleton]at hx
  subst hx;exact au Bi)
 refine⟨_,noL,60,hC,az _,fun blk os out tape D hD=> ?_⟩;conv=>lhs;whnf
 have key:bR s.data.toList=true∨bR s.data.toList=false:=by cases bR s.data.toList<;>simp
 rcases key with hk|hk
 ·refine bw (fun hb=>absurd hb (by simp [hk])) (fun _=> ?_)
  obtain⟨q,hl,hq,hi0⟩:=vh hk;conv=>lhs;whnf
  refine bw (fun hb=> ?_) (fun hb=> ?_)<;>(conv=>lhs;whnf)
  ·have h1:s.data.toList= [47]:=bu.1 hb
   refine(hD _).2 ⟨rfl,?_⟩;rw [wq,if_neg (by simp [h1])]
  ·have h1:s.data.toList≠ [47]:=fun h=>by
     have:jU s.data.toList [47]=true:=bu.2 h;exact absurd (this.symm.trans hb) (by simp)
   refine(hD _).2 ⟨(s,47),⟨rfl,by rw [hl,List.length_cons];omega⟩,fun v A' hq=> ?_⟩;obtain⟨rfl,rfl⟩:A'=A∧v= .int .i64 (dB s.data.toList 47):=hq;conv=>lhs;whnf
   have hlt:dB s.data.toList 47<(s.data.toList.length:Int):=(sF _ _ _).2;have hlen:1≤s.data.toList.length:=by rw [hl,List.length_cons];omega
   have hlen2:s.data.toList.length≤200:=by rw [hl,List.length_cons];omega
   have hmx:(bif decide (dB s.data.toList 47<1)then 1 else dB s.data.toList 47)=max (dB s.data.toList 47) 1:=by
    by_cases h9:dB s.data.toList 47<1
    ·simp only [h9,decide_true,cond_true];omega
    ·simp only [h9,decide_false,cond_false];omega
   have hw:IntKind.i64.wrap (dB s.data.toList 47+1)=dB s.data.toList 47+1:=yZ (by omega) (by omega);refine gB ?_ ?_
   ·simp only [cond_true,hmx,Bool.and_eq_true,decide_eq_true_eq,Bool.or_eq_true]
    omega
   conv=>lhs;whnf
   refine gB ?_ ?_
   ·simp only [hw,Bool.and_eq_true,decide_eq_true_eq,Bool.or_eq_true]
    omega
   conv=>lhs;whnf
   refine(hD _).2 ⟨rfl,?_⟩;rw [wq,if_pos ⟨hk,h1⟩];simp only [cond_true,hmx,hw];simp;exact List.take_of_length_le (by simp)
 ·refine gB (by simp [hk]) ?_
  conv=>lhs;whnf
  refine(hD _).2 ⟨rfl,?_⟩;rw [wq,if_neg (by simp [hk])]
def bj(s:ByteArray):ByteArray:=⟨(wq s.data.toList).1.toArray⟩
def tE:aY:=⟨ByteArray,fun s vs _=>vs= [.string s],fun s _ A v A'=>A'=A∧v= .string (bj s)⟩
theorem cutC:aI Tryz.prog (bQ [aM 122 cutS] noC):=aD (aA _) (fun x hx=>by
 simp only [List.mem_singleton]at hx
 subst hx;exact au cut_ok)
theorem sh:FOk Tryz.prog 59 tE:=by
 refine bG mixed fun s vs A hp=> ?_
 obtain rfl:vs= [.string s]:=hp;refine⟨_,noL,60,cutC,az _,fun blk os out tape D hD=> ?_⟩;conv=>lhs;whnf
 refine(hD _).2 ⟨s,rfl,fun v A' hq=> ?_⟩;obtain⟨rfl,rfl⟩:A'=A∧v= .tuple #[.string ⟨(wq s.data.toList).1.toArray⟩,.string ⟨(wq s.data.toList).2.toArray⟩]:=hq;conv=>lhs;whnf
 exact(hD _).2 ⟨rfl,rfl⟩
def kx(last:Int)(m:bC):Bool:=
 if m.id≤last∨7<m.id then false
 else if m.role=2 then decide (m.weight=0∧m.group=0)
 else decide (m.role=1∧0≤m.weight∧m.weight≤1000∧0≤m.group∧m.group<7)
theorem jx(last:Int)(m:bC):kx last m=true↔last<m.id∧m.id≤7∧((m.role=2∧m.weight=0∧m.group=0)∨(m.role=1∧0≤m.weight∧m.weight≤1000∧0≤m.group∧m.group<7)):=by
 unfold kx
 split
 ·simp;omega
 ·split
  ·simp;omega
  ·simp;omega
def kI(last w:Int):List bC→Option (Int×Int)
 | []=>some (last,w)
 |m::ms=>if kx last m=true then kI m.id (w+m.weight) ms else none
def fL(ver:Int)(ms:List bC):Int:=
 if 7<ms.length then 3 else match kI 0 0 ms with
  |none=>140
  |some (_,w)=>if w=0∨ver<0∨4611686018427387904<ver then 140 else 0
theorem DC{A:aa}{g o n:Nat}{l:List bC}(h:A.rd g o (n*4)=some (eB l))(k:Nat)(hk:k<l.length)(hn:n=l.length):A.rd g (o+k*4) 4=some [.int .i64 l[k].id,.int .u8 l[k].role,.int .i64 l[k].weight,.int .i64 l[k].group]:=by
 have:=tp (rows:=l.map bC.cells) h (lB l) k (by simpa using hk) (by simpa using hn);simpa [bC.cells]using this
def BG:aY:=⟨Int×List bC,fun g vs A=>∃vm,vs= [.agg #[.int .i64 g.1,vm]]∧gq A vm g.2,fun g _ A v A'=>A'=A∧v= .int .i64 (fL g.1 g.2)⟩
def Ek(A:aa)(ms:List bC):fj:= { γ:=Nat×Int×Int,G:=fun s=>s.1≤ms.length∧kI s.2.1 s.2.2 (ms.drop s.1)=kI 0 0 ms∧0≤s.2.2∧s.2.2≤1000*s.1,keepS:= [1,3,5,14,15],keepB:= [0],sl:=fun s=> [(4,.v (.int .i64 s.2.2)),(16,.v (.int .i64 s.1))],bl:=fun s=> [(1,.cells [.v (.int .i64 s.2.1)] 0 (3+1))],ar:=fun _=>A,mu:=fun s=>ms.length-s.1 }
theorem ue:FOk Tryz.prog 119 BG:=by
 refine bG mixed fun⟨ver,ms⟩ vs A hp=> ?_
 simp only [BG]at hp;obtain⟨vm,rfl,⟨ao,c,rfl,hc,hl,ha1,ha2,ha3⟩,hxl⟩:=hp;refine⟨noC,ic Tryz.prog noC noL 60 [(119,0)],60,aA _,bg mixed (aA _) (az _) _ _,fun blk os out tape D hD=> ?_⟩;conv=>lhs;whnf
 refine af (fun h7=> ?_) (fun h7=> ?_)<;>(conv=>lhs;whnf)
 ·refine(hD _).2 ⟨rfl,?_⟩
  have h7:(7:Int)<ms.length:=h7;rw [fL,if_pos (show 7<ms.length by omega)]
 have h7:¬(7:Int)<ms.length:=h7;refine(hD _).2 ⟨Ek A ms,⟨(0,0,0),⟨Nat.zero_le _,rfl,by simp,by simp⟩,⟨rfl,rfl,trivial⟩,⟨rfl,trivial⟩,rfl⟩,fun⟨k,last,w⟩ hG=>⟨⟨trivial,trivial,trivial⟩,⟨Nat.lt_succ_self 1,⟨trivial,trivial⟩,trivial⟩,?_⟩⟩;obtain⟨hk,hgo,hw0,hw1⟩:k≤ms.length∧kI last w (ms.drop k)=kI 0 0 ms∧0≤w∧w≤1000*k:=hG;conv=>lhs;whnf
 refine af (fun hlt=> ?_) (fun hlt=> ?_)
 ·have hkn:k<ms.length:=by
    have hlt:(k:Int)<ms.length:=hlt;omega
  obtain⟨g,o,rfl,hra⟩:=Sl.at_ hc ha1 ha2 ha3 (by omega);conv=>lhs;whnf
  refine cO ⟨by show(0:Int)≤(k:Int);omega,hlt⟩ ?_;conv=>lhs;whnf
  refine ai (DC hra k hkn rfl) ?_;have hdrop:ms.drop k=ms[k]::ms.drop (k+1):=List.drop_eq_getElem_cons hkn;rw [hdrop]at hgo;generalize ms[k]=m at hgo;obtain⟨id,role,weight,group⟩:=m
  have bad:¬(last<id∧id≤7∧((role=2∧weight=0∧group=0)∨(role=1∧0≤weight∧weight≤1000∧0≤group∧group<7)))→Value.int .i64 140= .int .i64 (fL ver ms):=fun h=>by
   have hm:¬kx last ⟨id,role,weight,group⟩=true:=fun hm=>h ((jx _ _).1 hm)
   rw [fL,if_neg (by omega),←hgo,kI,if_neg hm]
  have good:last<id→id≤7→((role=2∧weight=0∧group=0)∨(role=1∧0≤weight∧weight≤1000∧0≤group∧group<7))→IntKind.i64.wrap (w+weight)=w+weight∧(Ek A ms).G (k+1,id,w+weight):=fun h1 h2 h3=>by
   have hm:kx last ⟨id,role,weight,group⟩=true:=(jx _ _).2 ⟨h1,h2,h3⟩;rw [kI,if_pos hm]at hgo;exact⟨yZ (by omega) (by omega),by show k+1≤ms.length;omega,hgo,by show 0≤w+weight;omega,by show w+weight≤1000*((k+1:Nat):Int);omega⟩
  clear hgo hdrop hra ha1 ha2 ha3;conv=>lhs;whnf
  repeat' (first
   |exact(hD _).2 ⟨rfl,bad (by dsimp only at*;omega)⟩
   |(have hg:=good (by dsimp only at*;omega) (by dsimp only at*;omega) (by dsimp only at*;omega)
     exact(hD _).2 ⟨(k+1,id,w+weight),⟨hg.2,⟨congrArg (fun x=>some (SV.v (.int .i64 x))) hg.1,bf (by omega),trivial⟩,⟨rfl,trivial⟩,rfl⟩,by show ms.length-(k+1)<ms.length-k;omega,⟨rfl,rfl,rfl,rfl,rfl,trivial⟩,⟨rfl,trivial⟩⟩)
   |(refine dS (fun _=> ?_) (fun _=> ?_)<;>(conv=>lhs;whnf))
   |(refine af (fun _=> ?_) (fun _=> ?_)<;>(conv=>lhs;whnf))
   |(refine cO ⟨by show(0:Int)≤(k:Int);omega,hlt⟩ ?_;conv=>lhs;whnf))
 ·conv=>lhs;whnf
  have hkn:k=ms.length:=by
   have hlt:¬(k:Int)<ms.length:=hlt;omega
  subst hkn;rw [List.drop_eq_nil_of_le (Nat.le_refl _),kI]at hgo
  have fin1:(w=0∨ver<0∨4611686018427387904<ver)→Value.int .i64 140= .int .i64 (fL ver ms):=fun h=>by
   rw [fL,if_neg (by omega),←hgo];dsimp only;rw [if_pos h]
  have fin2:¬(w=0∨ver<0∨4611686018427387904<ver)→Value.int .i64 0= .int .i64 (fL ver ms):=fun h=>by
   rw [fL,if_neg (by omega),←hgo];dsimp only;rw [if_neg h]
  repeat' (first
   |exact(hD _).2 ⟨rfl,fin1 (by dsimp only at*;omega)⟩
   |exact(hD _).2 ⟨rfl,fin2 (by dsimp only at*;omega)⟩
   |(refine af (fun _=> ?_) (fun _=> ?_)<;>(conv=>lhs;whnf)))
end
end Go.Proofs.YtmmlhdiejkknnaaGreatDoor
