/-
  Parts of the proof: SxY SxZ CoA GrA GrB
-/
import Derived.Test.YtphigpccfbfnoaaGreatDoorG14
import Derived.Test.YtphigpccfbfnoaaGreatDoorProg
set_option maxRecDepth 100000
set_option maxHeartbeats 0
namespace Go.Sx
noncomputable section
variable {dfs : List Deferred}
structure aL where
 γ:Type
 pre:γ→List Value→aa→Prop
 post:γ→List Value→aa→Value→aa→Prop
def vH:SV→Option Value
 | .v x=>some x
 | .str l=>some (.string ⟨l.toArray⟩)
 | .agg cs=>match je cs with
   |some vs=>some (.agg vs.toArray)
   |none=>none
 |_=>none
theorem rL{x:SV}{v:Value}(h:vH x=some v)(ρ:Nat→Loc):x.den ρ=v:=by
 unfold vH at h
 split at h
 ·injection h
 ·injection h
 ·rename_i cs
  split at h
  ·rename_i vs hvs
   injection h with h
   rw [←h,SV.den,dP,eI ρ cs vs hvs]
  ·cases h
 ·cases h
def qL:List SV→Option (List Value)
 | []=>some []
 |x::xs=>match vH x with
  |some v=>match qL xs with
   |some vs=>some (v::vs)
   |none=>none
  |none=>none
theorem qi(ρ:Nat→Loc):∀(l:List SV) (vs:List Value),qL l=some vs→l.map (SV.den ρ)=vs
 | [],vs,h=>by injection h
 |x::xs,vs,h=>by
  simp only [qL]at h
  split at h
  ·rename_i v hv
   split at h
   ·rename_i us hus
    injection h with h;subst h
    rw [List.map_cons,rL hv ρ,qi ρ xs us hus]
   ·cases h
  ·cases h
def rJ:SV→Option Value
 | .tup cs=>match qL cs with
   |some vs=>some (.tuple vs.toArray)
   |none=>none
 | .v x=>some x
 | .fn f []=>some (.func (.func f) #[] #[])
 |x=>vH x
theorem rI{x:SV}{v:Value}(h:rJ x=some v)(ρ:Nat→Loc):x.den ρ=v:=by
 unfold rJ at h
 split at h
 ·rename_i cs
  split at h
  ·rename_i vs hvs
   injection h with h
   rw [←h,SV.den,dP,qi ρ cs vs hvs]
  ·cases h
 ·injection h
 ·injection h
 ·exact rL h ρ
def iS:List SV→Option (List Value)
 | []=>some []
 |x::xs=>match rJ x with
  |some v=>match iS xs with
   |some vs=>some (v::vs)
   |none=>none
  |none=>none
theorem kY(ρ:Nat→Loc):∀(l:List SV) (vs:List Value),iS l=some vs→l.map (SV.den ρ)=vs
 | [],vs,h=>by injection h
 |x::xs,vs,h=>by
  simp only [iS]at h
  split at h
  ·rename_i v hv
   split at h
   ·rename_i us hus
    injection h with h;subst h
    rw [List.map_cons,rI hv ρ,kY ρ xs us hus]
   ·cases h
  ·cases h
def ctS(S:aL):CT:=fun args h K=>match iS args with
 |some vs=>h.M.D (∃g,S.pre g vs h.M.A∧∀v A',S.post g vs h.M.A v A'→K (.v v) (h.put A')=true)
 |none=>false
structure GP(A A':aa)(w w':World):Prop where
 os:w'.os=w.os
 out:w'.output=w.output
 tape:w'.tape=w.tape
 same:∀k,A.blk k=none→k<w.heap.size→w'.heap[k]? =w.heap[k]?
 sub:∀k o,A'.blk k=some o→w'.heap[k]? =some o
 dom:∀k o,A'.blk k=some o→(∃o',A.blk k=some o')∨w.heap.size≤k
def FOk(P:Program)(f:FuncId)(S:aL):Prop:=
 ∀g vs A w,(∀k o,A.blk k=some o→w.heap[k]? =some o)→S.pre g vs A→dZ P f vs.toArray w (fun v w'=>∃A',S.post g vs A v A'∧GP A A' w w') fun _ _=>False
theorem Gn{P:Program}{f:FuncId}{S:aL}(hS:FOk P f S){args:List SV}{h:HS}{K:SV→HS→Bool}(hk:ctS S args h K=true){ρ:Nat→Loc}{w:World}(R:ba ρ h w):
  dZ P f (args.map (SV.den ρ)).toArray w (dT ρ h K) fun _ _=>False:=by
 unfold ctS at hk
 split at hk
 ·rename_i vs hvs
  obtain⟨g,hp,hk⟩:=(h.M.X.hD _).1 hk;rw [kY ρ args vs hvs];refine(hS g vs h.M.A w R.are hp).mono (fun v w' ⟨A',k1,k2⟩=> ?_) fun _ _ h=>h
  exact⟨.v v,h.put A',ρ,hk v A' k1,rfl,trivial,R.uW k2.os k2.out k2.tape k2.same k2.sub k2.dom,Ext.refl _ _,Nat.le_refl _,Mem.dH _ _⟩
 ·exact absurd hk Bool.false_ne_true
abbrev opMem(blk:Nat→Option Obj)(os:Os)(out:Array (Nat×ByteArray))(tape:Nat→Question→Nat)(A:aa)(D:Prop→Bool)(hD:∀p,D p=true↔p)(al:TypeId→Bool:=fun _=>false):Mem:=
 ⟨blk,os,out,tape, [],fun _ _ h=>(by cases h),⟨A,D,hD,true,al⟩⟩
def ir(S:aL)(g:S.γ)(vs:List Value)(A:aa):SV→HS→Bool:=fun z h=>match rJ z with
 |some v=>h.M.D (S.post g vs A v h.M.A)
 |none=>false
def endK(S:aL)(g:S.γ)(vs:List Value)(A:aa):SV→HS→Bool:=fun z h=>
 h.M.D (∀ρ w,ba ρ h w→z.lt ρ h.nx→∃A',S.post g vs A (z.den ρ) A'∧(∀k o,A'.blk k=some o→w.heap[k]? =some o)∧∀k o,A'.blk k=some o→(∃o',h.M.A.blk k=some o')∨∃b B,h.H.get b=some B∧(ρ b).blk=k)
theorem yL{S:aL}{g:S.γ}{vs:List Value}{A:aa}{z:SV}{h:HS}(hk:ir S g vs A z h=true):endK S g vs A z h=true:=by
 unfold ir at hk
 split at hk
 ·rename_i v hv
  have hk:=(h.M.X.hD _).1 hk;refine(h.M.X.hD _).2 fun ρ w R _=>⟨h.M.A,by rw [rI hv ρ];exact hk,R.are,fun k o ho=> .inl ⟨o,ho⟩⟩
 ·exact absurd hk Bool.false_ne_true
def ua(P:Program)(C:FuncId→Option CT)(Λ:jQ)(n:Nat)(f:FuncId)(args:List SV)(h:HS)(K:SV→HS→Bool):Bool:=xw P Λ.mg (jV P C Λ n) noC f args h K fun _ _=>false
theorem kL{P:Program}(hm:P.follows .mixedOrders=true){C:FuncId→Option CT}(hC:aF P C){Λ:jQ}(hΛ:fe P Λ)(n:Nat):∀f args h K,ua P C Λ n f args h K→∀ρ w,ba ρ h w→(∀x∈args,x.lt ρ h.nx)→dZ P f (args.map (SV.den ρ)).toArray w (dT ρ h K) fun _ _=>False:=
 fun f args h K hk ρ w H ha=>(qc (aj P) (uc hm hC hΛ n).1 f args h K _ hk ρ w H ha).mono (fun _ _ h=>h) fun _ _ h=>rW h
abbrev Run(P:Program)(C:FuncId→Option CT)(Λ:jQ)(n:Nat)(f:FuncId)(args:List SV)(A:aa)(E:SV→HS→Bool)(al:TypeId→Bool:=fun _=>false):Prop:=
 ∀blk os out tape D hD,ua P C Λ n f args ⟨.e,0,opMem blk os out tape A D hD al⟩ E=true
theorem sM{P:Program}(hm:P.follows .mixedOrders=true){f:FuncId}{S:aL}{E:(g:S.γ)→List Value→aa→SV→HS→Bool}(hE:∀g vs A z h,E g vs A z h=true→endK S g vs A z h=true)(al:TypeId→Bool)
  (hr:∀g vs A,S.pre g vs A→∃C Λ n args,aF P C∧fe P Λ∧iS args=some vs∧(∀ρ,∀x∈args,x.lt ρ 0)∧Run P C Λ n f args A (E g vs A) al):FOk P f S:=by
 classical
 intro gh vs A w hA hp;obtain⟨C,Λ,n,args,hC,hΛ,h1,h2,h3⟩:=hr gh vs A hp
 have R:ba (fun _=>⟨0,0,0⟩) ⟨.e,0,opMem (fun k=>if A.blk k=none then w.heap[k]? else none) w.os w.output w.tape A (fun p=>decide p) (fun p=>by simp) al⟩ w:=by
  refine⟨rfl,rfl,rfl,fun k o hk=> ?_,fun b B hb=> ?_,fun b b' B B' hb=> ?_,fun b B hb=> ?_,hA,fun b B hb=> ?_,fun k o hk=> ?_⟩
  ·have hk:(if A.blk k=none then w.heap[k]? else none)=some o:=hk
   split at hk
   ·exact hk
   ·cases hk
  ·rw [T.eE]at hb;cases hb
  ·rw [T.eE]at hb;cases hb
  ·rw [T.eE]at hb;cases hb
  ·rw [T.eE]at hb;cases hb
  ·have hk:A.blk k=some o:=hk
   show(if A.blk k=none then w.heap[k]? else none)=none
   rw [if_neg (by rw [hk];simp)]
 have g:=kL hm hC hΛ n f args _ _ (h3 _ _ _ _ _ _) _ w R (fun x hx=>h2 _ x hx);rw [kY _ args vs h1]at g;refine g.mono (fun v w' ⟨z,h',ρ',hz,hv,hl,R',_,_,hle⟩=> ?_) fun _ _ h=>h
 obtain⟨A',k1,k2,k3⟩:=(h'.M.X.hD _).1 (hE _ _ _ _ _ hz) ρ' w' R' hl
 have old:∀k,A.blk k=none→k<w.heap.size→h'.M.blk k=w.heap[k]? :=fun k hk hlt=>by
  have h0:w.heap[k]? =some w.heap[k]:=Array.getElem?_eq_getElem hlt;have:=hle.1 k w.heap[k] (by show(if A.blk k=none then w.heap[k]? else none)=_;rw [if_pos hk];exact h0);rw [this,h0]
 refine⟨A',by rw [hv];exact k1,R'.os.trans hle.2.1,R'.out.trans hle.2.2.1,R'.tape.trans hle.2.2.2,fun k hk hlt=> ?_,k2,fun k o ho=> ?_⟩
 ·have h0:w.heap[k]? =some w.heap[k]:=Array.getElem?_eq_getElem hlt
  rw [R'.mem k w.heap[k] (by rw [old k hk hlt];exact h0),h0]
 ·cases hA0:A.blk k with
  |some o'=>exact .inl ⟨o',rfl⟩
  |none=>
   refine .inr (Nat.le_of_not_lt fun hlt=> ?_);have h0:=old k hA0 hlt;have h00:w.heap[k]? =some w.heap[k]:=Array.getElem?_eq_getElem hlt;rcases k3 k o ho with⟨o',h4⟩|⟨b,B,h4,h5⟩
   ·rw [R'.disj k o' h4,h00]at h0;cases h0
   ·have:=R'.apart b B h4
    rw [h5,h0,h00]at this;cases this
theorem sL{P:Program}(hm:P.follows .mixedOrders=true){f:FuncId}{S:aL}
  (hr:∀g vs A,S.pre g vs A→∃C Λ n args,aF P C∧fe P Λ∧iS args=some vs∧(∀ρ,∀x∈args,x.lt ρ 0)∧Run P C Λ n f args A (ir S g vs A)):FOk P f S:=
 sM hm (fun _ _ _ _ _ h=>yL h) (fun _=>false) hr
mutual
def SV.bel(n:Nat):SV→Prop
 | .v _=>True
 | .str _=>True
 | .ptr b _=>b<n
 | .slc b _ _ c=>b<n∧c.lt n
 | .mp b=>b<n
 | .agg cs=>SV.AN n cs
 | .tup cs=>SV.AN n cs
 | .ifc _ x=>x.bel n
 | .fn _ cs=>SV.AN n cs
def SV.AN(n:Nat):List SV→Prop
 | []=>True
 |x::xs=>x.bel n∧SV.AN n xs
end
mutual
theorem SV.lK{ρ:Nat→Loc}{n m:Nat} :∀(x:SV),x.bel n→x.lt ρ m→x.lt ρ n
 | .v _,_,_=>trivial
 | .str _,_,_=>trivial
 | .ptr _ _,h,_=>h
 | .slc _ _ _ _,h,k=>⟨h.1,h.2,k.2.2⟩
 | .mp _,h,_=>h
 | .agg cs,h,k=>SV.qV cs h k
 | .tup cs,h,k=>SV.qV cs h k
 | .ifc _ x,h,k=>SV.lK x h k
 | .fn _ cs,h,k=>SV.qV cs h k
theorem SV.qV{ρ:Nat→Loc}{n m:Nat} :∀(l:List SV),SV.AN n l→SV.lts ρ m l→SV.lts ρ n l
 | [],_,_=>trivial
 |x::xs,h,k=>⟨SV.lK x h.1 k.1,SV.qV xs h.2 k.2⟩
end
def wH(n:Nat):List (SV×SV×Nat)→Prop
 | []=>True
 |e::es=>e.1.bel n∧e.2.1.bel n∧wH n es
def bS.bel(n:Nat):bS→Prop
 | .cells cs _ _=>SV.AN n cs
 | .map es _=>wH n es
 | .siter _ _=>True
 | .miter m _ _ _=>m<n
theorem y0{n:Nat} :∀ {l:List SV},SV.AN n l→∀x∈l,x.bel n
 | [],_,_,h=>by cases h
 |y::ys,h,x,hx=>by
  rcases List.mem_cons.1 hx with rfl|hx
  ·exact h.1
  ·exact y0 h.2 x hx
theorem lF{n:Nat} :∀ {l:List (SV×SV×Nat)},wH n l→∀e∈l,e.1.bel n∧e.2.1.bel n
 | [],_,_,h=>by cases h
 |y::ys,h,x,hx=>by
  rcases List.mem_cons.1 hx with rfl|hx
  ·exact⟨h.1,h.2.1⟩
  ·exact lF h.2.2 x hx
theorem bS.lK{ρ:Nat→Loc}{n m:Nat}{B:bS}(h:B.bel n)(k:B.lt ρ m):B.lt ρ n:=by
 cases B with
 |cells cs es τ=>exact fun x hx=>SV.lK x (y0 h x hx) (k x hx)
 |map es clock=>exact fun e he=>⟨SV.lK _ (lF h e he).1 (k e he).1,SV.lK _ (lF h e he).2 (k e he).2⟩
 |siter s pos=>trivial
 |miter m' since seen last=>exact h
structure dE where
 γ:Type
 G:γ→Prop
 keepS:List Nat
 keepB:List Nat
 sl:γ→List (Nat×SV)
 bl:γ→List (Nat×bS)
 ar:γ→aa
 mu:γ→Nat
def kE{α:Type}(t:T α):List Nat→T α→T α
 | [],acc=>acc
 |i::is,acc=>match t.get i with
  |some x=>kE t is (acc.set i x)
  |none=>kE t is acc
theorem lQ{α:Type}{t:T α} :∀ {is:List Nat} {acc:T α} {i:Nat} {x:α},(kE t is acc).get i=some x→(i∈is∧t.get i=some x)∨acc.get i=some x
 | [],_,_,_,h=> .inr h
 |j::js,acc,i,x,h=>by
  simp only [kE]at h
  split at h
  ·rename_i y hy
   rcases lQ h with⟨h1,h2⟩|h
   ·exact .inl ⟨List.mem_cons_of_mem _ h1,h2⟩
   ·rcases T.cI h with⟨h1,h2⟩|⟨_,h⟩
    ·subst h1;subst h2;exact .inl ⟨List.mem_cons_self,hy⟩
    ·exact .inr h
  ·rcases lQ h with⟨h1,h2⟩|h
   ·exact .inl ⟨List.mem_cons_of_mem _ h1,h2⟩
   ·exact .inr h
def tK{α:Type} :List (Nat×α)→T α→T α
 | [],t=>t
 |s::ss,t=>tK ss (t.set s.1 s.2)
theorem rF{α:Type} :∀ {l:List (Nat×α)} {t:T α} {i:Nat} {x:α},(tK l t).get i=some x→(i,x)∈l∨t.get i=some x
 | [],_,_,_,h=> .inr h
 |s::ss,t,i,x,h=>by
  rcases rF (l:=ss) h with h|h
  ·exact .inl (List.mem_cons_of_mem _ h)
  ·rcases T.cI h with⟨h1,h2⟩|⟨_,h⟩
   ·subst h1;subst h2;exact .inl (by simp)
   ·exact .inr h
def ug{α:Type}(t t':T α):List Nat→Prop
 | []=>True
 |i::is=>t'.get i=t.get i∧ug t t' is
theorem oP{α:Type}{t t':T α} :∀ {is:List Nat},ug t t' is→∀i∈is,t'.get i=t.get i
 | [],_,_,h=>by cases h
 |j::js,h,i,hi=>by
  rcases List.mem_cons.1 hi with rfl|hi
  ·exact h.1
  ·exact oP h.2 i hi
theorem an{α:Type}{t t':T α}{i:Nat}{x:α}(h1:t'.get i=some x)(h2:t.get i=some x):t'.get i=t.get i:=h1.trans h2.symm
def atP{α:Type}(t:T α):List (Nat×α)→Prop
 | []=>True
 |s::ss=>t.get s.1=some s.2∧atP t ss
theorem wR{α:Type}{t:T α} :∀ {l:List (Nat×α)},atP t l→∀s∈l,t.get s.1=some s.2
 | [],_,_,h=>by cases h
 |x::xs,h,s,hs=>by
  rcases List.mem_cons.1 hs with rfl|hs
  ·exact h.1
  ·exact wR h.2 s hs
def belS(n:Nat):List (Nat×SV)→Prop
 | []=>True
 |s::ss=>s.2.bel n∧belS n ss
def belB(n:Nat):List (Nat×bS)→Prop
 | []=>True
 |s::ss=>s.1<n∧s.2.bel n∧belB n ss
theorem y3{n:Nat} :∀ {l:List (Nat×SV)},belS n l→∀s∈l,s.2.bel n
 | [],_,_,h=>by cases h
 |x::xs,h,s,hs=>by
  rcases List.mem_cons.1 hs with rfl|hs
  ·exact h.1
  ·exact y3 h.2 s hs
theorem y4{n:Nat} :∀ {l:List (Nat×bS)},belB n l→∀s∈l,s.1<n∧s.2.bel n
 | [],_,_,h=>by cases h
 |x::xs,h,s,hs=>by
  rcases List.mem_cons.1 hs with rfl|hs
  ·exact⟨h.1,h.2.1⟩
  ·exact y4 h.2.2 s hs
def dE.At(S:dE)(g:S.γ)(tm:T SV)(h:HS):Prop:=S.G g∧atP tm (S.sl g)∧atP h.H (S.bl g)∧h.M.A=S.ar g
def loopK(S:dE)(id:Nat)(K:KT)(tm0:T SV)(H0:T bS)(m:Nat):KT:=fun e tm h=>match e with
 | .nrm=>h.M.D (∃g,S.At g tm h∧S.mu g<m∧ug tm0 tm S.keepS∧ug H0 h.H S.keepB)
 | .ext i=>bif Nat.beq i id then K .nrm tm h else K (.ext i) tm h
 |e=>K e tm h
def Aa(P:Program)(C:FuncId→Option CT)(Λ:jQ)(n:Nat)(f:FuncId)(id:Nat):LT:=fun c sz K tm h=>match c with
 | .loop b=>h.M.D (∃S:dE,(∃g,S.At g tm h)∧∀g,S.G g→belS h.nx (S.sl g)∧belB h.nx (S.bl g)∧
    uf ⟨tK (S.bl g) (kE h.H S.keepB .e),h.nx,h.M.put (S.ar g)⟩ (fun h1=>jV P C Λ n f sz b (loopK S id K tm h.H (S.mu g)) (tK (S.sl g) (kE tm S.keepS .e)) h1)=true)
 |_=>false
theorem vZ{P:Program}(hm:P.follows .mixedOrders=true){C:FuncId→Option CT}(hC:aF P C){Λ:jQ}(hΛ:fe P Λ)(n:Nat)(f:FuncId)(id:Nat)
  {c:Code} {sz:Nat} {K:KT} {tm:T SV} {h:HS} (hW:jn P f (.block id c)) (hk:Aa P C Λ n f id c sz K tm h=true) {ρ:Nat→Loc} {a:Act} {w:World} (A:dR dfs ρ tm sz h.nx a) (R:ba ρ h w):
  (Code.block id c).wp P (ig dfs ρ h sz K) a w:=by
 unfold Aa at hk
 split at hk
 ·rename_i b
  obtain⟨S,⟨g0,h0⟩,hk⟩:=(h.M.X.hD _).1 hk
  have state:∀(g:S.γ) (tm':T SV) (h':HS) (ρ':Nat→Loc) (a':Act) (w':World),S.At g tm' h'→ug tm tm' S.keepS→ug h.H h'.H S.keepB→dR dfs ρ' tm' sz h'.nx a'→ba ρ' h' w'→Ext ρ ρ' h.nx→h.M.le h'.M→
    dR dfs ρ' (tK (S.sl g) (kE tm S.keepS .e)) sz h.nx a'∧ba ρ' ⟨tK (S.bl g) (kE h.H S.keepB .e),h.nx,h.M.put (S.ar g)⟩ w':=by
   intro g tm' h' ρ' a' w' ⟨hG,h1,h2,h3⟩ hs1 hs2 A' R' hx hle;obtain⟨hb1,hb2,_⟩:=hk g hG
   have slot:∀i x,(tK (S.sl g) (kE tm S.keepS .e)).get i=some x→tm'.get i=some x∧x.lt ρ' h.nx:=fun i x hi=>by
    rcases rF hi with hi|hi
    ·have h4:=wR h1 _ hi
     exact⟨h4,SV.lK x (y3 hb1 _ hi) (A'.at_ i x h4).1⟩
    ·rcases lQ hi with⟨h4,h5⟩|h4
     ·refine⟨by rw [oP hs1 i h4];exact h5,?_⟩
      exact SV.fV hx (Nat.le_refl _) x (A.at_ i x h5).1
     ·rw [T.eE]at h4;cases h4
   have blk:∀i B,(tK (S.bl g) (kE h.H S.keepB .e)).get i=some B→h'.H.get i=some B∧i<h.nx∧B.lt ρ' h.nx:=fun i B hi=>by
    rcases rF hi with hi|hi
    ·have h4:=wR h2 _ hi
     have h5:=y4 hb2 _ hi;exact⟨h4,h5.1,bS.lK h5.2 (R'.blk i B h4).2.1⟩
    ·rcases lQ hi with⟨h4,h5⟩|h4
     ·refine⟨by rw [oP hs2 i h4];exact h5,(R.blk i B h5).1,?_⟩
      exact bS.fV hx (Nat.le_refl _) (R.blk i B h5).2.1
     ·rw [T.eE]at h4;cases h4
   refine⟨⟨A'.size,fun i x hi=>⟨(slot i x hi).2,(A'.at_ i x (slot i x hi).1).2⟩,A'.defers⟩,R'.os.trans hle.2.1,R'.out.trans hle.2.2.1,R'.tape.trans hle.2.2.2,fun k o hk=>R'.mem k o (hle.1 k o hk),fun i B hi=> ?_,fun i i' B B' hi hi' he=>R'.inj i i' B B' (blk i B hi).1 (blk i' B' hi').1 he,fun i B hi=> ?_,fun k o hk=> ?_,fun i B hi=> ?_,fun k o hk=> ?_⟩
   ·exact⟨(blk i B hi).2.1,(blk i B hi).2.2,(R'.blk i B (blk i B hi).1).2.2⟩
   ·have:=R'.apart i B (blk i B hi).1
    show h.M.blk (ρ' i).blk=none
    cases hb:h.M.blk (ρ' i).blk with
    |none=>rfl
    |some o=>rw [hle.1 _ o hb]at this;cases this
   ·have hk:(S.ar g).blk k=some o:=hk
    rw [←h3]at hk;exact R'.are k o hk
   ·show(S.ar g).blk (ρ' i).blk=none
    rw [←h3];exact R'.aprA i B (blk i B hi).1
   ·have hk:(S.ar g).blk k=some o:=hk
    rw [←h3]at hk;have:=R'.disj k o hk;show h.M.blk k=none
    cases hb:h.M.blk k with
    |none=>rfl
    |some o'=>rw [hle.1 _ o' hb]at this;cases this
  have key:∀(m:Nat) (g:S.γ) (ρ1:Nat→Loc) (a1:Act) (w1:World),S.mu g<m→S.G g→Ext ρ ρ1 h.nx→dR dfs ρ1 (tK (S.sl g) (kE tm S.keepS .e)) sz h.nx a1→ba ρ1 ⟨tK (S.bl g) (kE h.H S.keepB .e),h.nx,h.M.put (S.ar g)⟩ w1→
    Code.rounds P b (Exit.inBlock id (ig dfs ρ h sz K)) m a1 w1:=by
   intro m
   induction m with
   |zero=>intro g ρ1 a1 w1 hm;omega
   |succ m ih=>
    intro g ρ1 a1 w1 hlt hG hx1 A1 R1;obtain⟨_,_,hrun⟩:=hk g hG;rw [kP]at hrun;rw [rounds_succ];refine wp_mono ((uc hm hC hΛ n).1 f sz b _ _ _ (hW.to .block|>.to .loop) hrun dfs ρ1 a1 w1 A1 R1) fun e a' w' gx=> ?_
    have fin:∀ {tm':T SV} {h':HS} {ρ':Nat→Loc},Ext ρ1 ρ' h.nx→h.nx≤h'.nx→(h.M.put (S.ar g)).le h'.M→Ext ρ ρ' h.nx∧h.nx≤h'.nx∧h.M.le h'.M:=fun hx hn hle=>⟨hx1.trans hx (Nat.le_refl _),hn,hle⟩
    cases e with
    |normal=>
     obtain⟨tm',h',ρ',hk',A',R',hx,hn,hle⟩:=gx;obtain⟨g',hAt,hmu,hs1,hs2⟩:=(h'.M.X.hD _).1 hk';obtain⟨A2,R2⟩:=state g' tm' h' ρ' a' w' hAt hs1 hs2 A' R' (hx1.trans hx (Nat.le_refl _)) hle;exact ih g' ρ' a' w' (by omega) hAt.1 (hx1.trans hx (Nat.le_refl _)) A2 R2
    |exit i=>
     obtain⟨tm',h',ρ',hk',A',R',hx,hn,hle⟩:=gx;have hk2:(bif Nat.beq i id then K .nrm tm' h' else K (.ext i) tm' h')=true:=hk';show Exit.inBlock id (ig dfs ρ h sz K) (.exit i) a' w'
     cases hb:Nat.beq i id with
     |true=>
      rw [hb]at hk2;have:=Nat.eq_of_beq_eq_true hb;subst this;simp only [Exit.inBlock,if_true];exact⟨tm',h',ρ',hk2,A',R',hx1.trans hx (Nat.le_refl _),hn,hle⟩
     |false=>
      rw [hb]at hk2;have hne:i≠id:=fun e=>by rw [e,Nat.beq_refl]at hb;cases hb
      simp only [Exit.inBlock,hne,if_false];exact⟨tm',h',ρ',hk2,A',R',hx1.trans hx (Nat.le_refl _),hn,hle⟩
    |ret=>
     obtain⟨tm',h',ρ',hk',A',R',hx,hn,hle⟩:=gx;exact⟨tm',h',ρ',hk',A',R',hx1.trans hx (Nat.le_refl _),hn,hle⟩
    |goto l=>exact gx.elim
    |panic c=>
     obtain⟨x,tm',h',ρ',e,l,hk',A',R',hx,hn,hle⟩:=gx;exact⟨x,tm',h',ρ',e,l,hk',A',R',hx1.trans hx (Nat.le_refl _),hn,hle⟩
    |outgrown=>exact gx.elim
  obtain⟨A0,R0⟩:=state g0 tm h ρ a w h0 (by
   generalize S.keepS=l
   induction l with
   |nil=>trivial
   |cons i is ih=>exact⟨rfl,ih⟩) (by
   generalize S.keepB=l
   induction l with
   |nil=>trivial
   |cons i is ih=>exact⟨rfl,ih⟩) A R (Ext.refl _ _) (Mem.le_refl _)
  refine wp_block (wp_loop_rounds (S.mu g0+1) (key (S.mu g0+1) g0 ρ a w (Nat.lt_succ_self _) h0.1 (Ext.refl _ _) A0 R0))
 ·exact absurd hk Bool.false_ne_true
structure Eh where
 f:FuncId
 id:Nat
 lt:LT
def BE(l:List Eh)(f:FuncId)(id:Nat):Option LT:=match l with
 | []=>none
 |x::xs=>bif Nat.beq f x.f&&Nat.beq id x.id then some x.lt else BE xs f id
def Eh.Ok(P:Program)(x:Eh):Prop:=∀c sz K tm h,jn P x.f (.block x.id c)→x.lt c sz K tm h→∀dfs ρ a w,dR dfs ρ tm sz h.nx a→ba ρ h w→(Code.block x.id c).wp P (ig dfs ρ h sz K) a w
def tabL(l:List Eh):jQ:=⟨BE l,fun _=>false,fun _ _=>none⟩
theorem zg{P:Program}{l:List Eh}(h:∀x∈l,x.Ok P):fe P (tabL l):=by
 intro f id lt hl;change BE l f id=some lt at hl;revert hl
 induction l with
 |nil=>intro hl;cases hl
 |cons x xs ih=>
  intro hl;simp only [BE]at hl
  cases hb:Nat.beq f x.f&&Nat.beq id x.id with
  |false=>rw [hb]at hl;exact ih (fun y hy=>h y (List.mem_cons_of_mem _ hy)) hl
  |true=>
   rw [hb]at hl;simp only [Bool.and_eq_true]at hb;simp only [cond_true,Option.some.injEq]at hl;subst hl;have e1:=Nat.eq_of_beq_eq_true hb.1;have e2:=Nat.eq_of_beq_eq_true hb.2;subst e1;subst e2
   exact h x List.mem_cons_self
def loopE(P:Program)(C:FuncId→Option CT)(Λ:jQ)(n:Nat)(f:FuncId)(id:Nat):Eh:=⟨f,id,Aa P C Λ n f id⟩
theorem FH{P:Program}(hm:P.follows .mixedOrders=true){C:FuncId→Option CT}(hC:aF P C){Λ:jQ}(hΛ:fe P Λ)(n:Nat)(f:FuncId)(id:Nat):(loopE P C Λ n f id).Ok P:=
 fun _ _ _ _ _ hW hk _ _ _ _ A R=>vZ hm hC hΛ n f id hW hk A R
def da(P:Program)(C:FuncId→Option CT)(Λ:jQ)(n:Nat)(l:List (FuncId×Nat)):jQ:=tabL (l.map fun x=>loopE P C Λ n x.1 x.2)
theorem aH{P:Program}(hm:P.follows .mixedOrders=true){C:FuncId→Option CT}(hC:aF P C){Λ:jQ}(hΛ:fe P Λ)(n:Nat)(l:List (FuncId×Nat)):fe P (da P C Λ n l):=
 zg fun x hx=>by
  obtain⟨y,_,rfl⟩:=List.mem_map.1 hx;exact FH hm hC hΛ n y.1 y.2
structure Ei where
 f:FuncId
 ct:CT
def bu(l:List Ei)(C:FuncId→Option CT):FuncId→Option CT:=fun f=>match l with
 | []=>C f
 |x::xs=>bif Nat.beq f x.f then some x.ct else bu xs C f
def Ei.Ok(P:Program)(x:Ei):Prop:=∀args h K,x.ct args h K→∀ρ w,ba ρ h w→(∀x∈args,x.lt ρ h.nx)→dZ P x.f (args.map (SV.den ρ)).toArray w (dT ρ h K) fun _ _=>False
theorem az{P:Program}{C:FuncId→Option CT}(hC:aF P C):∀ {l:List Ei},(∀x∈l,x.Ok P)→aF P (bu l C)
 | [],_=>hC
 |x::xs,h=>by
  intro f ct hf;simp only [bu]at hf
  cases hb:Nat.beq f x.f with
  |false=>rw [hb]at hf;exact az hC (fun y hy=>h y (List.mem_cons_of_mem _ hy)) f ct hf
  |true=>
   rw [hb]at hf;simp only [cond_true,Option.some.injEq]at hf;subst hf;have e1:=Nat.eq_of_beq_eq_true hb;subst e1;exact h x List.mem_cons_self
def aE(f:FuncId)(S:aL):Ei:=⟨f,ctS S⟩
theorem ai{P:Program}{f:FuncId}{S:aL}(h:FOk P f S):(aE f S).Ok P:=fun _ _ _ hk _ _ R _=>Gn h hk R
theorem aQ{t:Bool}{A B:Bool}(h1:t=true→A=true)(h2:t=false→B=true):(bif t then A else B)=true:=by
 cases t
 ·exact h2 rfl
 ·exact h1 rfl
theorem ab{p:Prop}{i:Decidable p}{A B:Bool}(h1:p→A=true)(h2:¬p→B=true):(bif decide p then A else B)=true:=by
 by_cases h:p
 ·rw [decide_eq_true h];exact h1 h
 ·rw [decide_eq_false h];exact h2 h
theorem fN{n:Int}{l:Nat}{A B:Bool}(h1:0≤n→n<l→A=true)(h2:¬(0≤n∧n<l)→B=true):(bif fC n l then A else B)=true:=by
 by_cases h:0≤n∧n<l
 ·rw [fK.2 h];exact h1 h.1 h.2
 ·have:fC n l=false:=by
    cases hb:fC n l with
    |false=>rfl
    |true=>exact absurd (fK.1 hb) h
  rw [this];exact h2 h
theorem cK{t:Bool}{A B:Bool}(h:t=true)(h1:A=true):(bif t then A else B)=true:=by rw [h];exact h1
theorem bP{p:Prop}{i:Decidable p}{A B:Bool}(h:p)(h1:A=true):(bif decide p then A else B)=true:=by rw [decide_eq_true h];exact h1
theorem aI{p:Prop}{i:Decidable p}{A B:Bool}(h:¬p)(h1:B=true):(bif decide p then A else B)=true:=by rw [decide_eq_false h];exact h1
theorem aq{n:Int}{l:Nat}{A B:Bool}(h:0≤n∧n<l)(h1:A=true):(bif fC n l then A else B)=true:=by rw [fK.2 h];exact h1
theorem au{D:Prop→Bool}(hD:∀p,D p=true↔p){p:Prop}{A B:Bool}(hp:p)(h1:A=true):(bif D p then A else B)=true:=by rw [(hD p).2 hp];exact h1
theorem dg{r:Option (Option Value)}{v:Option Value}{F:Option Value→Bool}(h:r=some v)(h1:F v=true):lkK r F=true:=by rw [h];exact h1
theorem af{r:Option (List Value)}{vs:List Value}{F:List Value→Bool}(h:r=some vs)(h1:F vs=true):rdK r F=true:=by rw [h];exact h1
end
end Go.Sx
namespace Go.Sx
noncomputable section
def aa.Sub(B A:aa):Prop:=∀k o,B.blk k=some o→A.blk k=some o
theorem aa.Sub.refl(A:aa):A.Sub A:=fun _ _ h=>h
theorem aa.Sub.trans{A B C:aa}(h:A.Sub B)(k:B.Sub C):A.Sub C:=fun i o ho=>k i o (h i o ho)
theorem rd_mk{A:aa}{g o n:Nat}{c:Array Value}{t:TypeId}{fz:Nat×Nat}(h:A.blk g=some (.cells c t fz))(hle:o+n≤c.size):A.rd g o n=some ((c.toList.drop o).take n):=by
 rw [A.rdeq];unfold zF;rw [h];simp only;rw [if_pos hle]
theorem aJ{A B:aa}(h:B.Sub A){g o n:Nat}{vs:List Value}(hr:B.rd g o n=some vs):A.rd g o n=some vs:=by
 obtain⟨c,t,fz,hb,hle,rfl⟩:=rd_some hr;exact rd_mk (h _ _ hb) hle
theorem cU{A:aa}{g o N i m:Nat}{cs:List Value}(h:A.rd g o N=some cs)(hi:i+m≤N):A.rd g (o+i) m=some ((cs.drop i).take m):=by
 obtain⟨c,t,fz,hb,hle,rfl⟩:=rd_some h;rw [rd_mk hb (by omega)];congr 1;rw [List.drop_take,List.take_take,List.drop_drop];congr 1;omega
def aa.minus(A' A:aa):aa:=aa.of fun k=>match A.blk k with
 |none=>A'.blk k
 |some _=>none
theorem bN{A A':aa}{k:Nat}{o:Obj}(h:(A'.minus A).blk k=some o):A.blk k=none∧A'.blk k=some o:=by
 have h:(match A.blk k with
  |none=>A'.blk k
  |some _=>none)=some o:=h
 split at h
 ·exact⟨by assumption,h⟩
 ·cases h
theorem r4{A A':aa}{k:Nat}{o:Obj}(h1:A.blk k=none)(h2:A'.blk k=some o):(A'.minus A).blk k=some o:=by
 show(match A.blk k with
  |none=>A'.blk k
  |some _=>none)=some o
 rw [h1];exact h2
theorem eo(A A':aa):(A'.minus A).Sub A':=fun _ _ h=>(bN h).2
theorem cG{A:aa}{k:Nat}{o:Obj}(A':aa)(h:A.blk k=some o):(A'.minus A).blk k=none:=by
 show(match A.blk k with
  |none=>A'.blk k
  |some _=>none)=none
 rw [h]
theorem jA{A A':aa}{g o n:Nat}{vs:List Value}(h:A'.rd g o n=some vs)(hg:A.blk g=none):(A'.minus A).rd g o n=some vs:=by
 obtain⟨c,t,fz,hb,hle,rfl⟩:=rd_some h;exact rd_mk (r4 hg hb) hle
theorem Fu{A A1 A2:aa}(h:A1.Sub A2):(A1.minus A).Sub (A2.minus A):=fun k o hk=>by
 obtain⟨h1,h2⟩:=bN hk;exact r4 h1 (h _ _ h2)
theorem xZ{A A1 A2:aa}(h:A.Sub A1):(A2.minus A1).Sub (A2.minus A):=fun k o hk=>by
 obtain⟨h1,h2⟩:=bN hk;refine r4 ?_ h2
 cases hA:A.blk k with
 |none=>rfl
 |some o'=>rw [h _ _ hA]at h1;cases h1
theorem aa.New.sub{A A':aa}{g:Nat}{c:Array Value}{t:TypeId}(h:A.New A' g c t):A.Sub A':=fun k o hk=>by
 rw [h.other k (fun e=>by subst e;rw [h.none_]at hk;cases hk)];exact hk
theorem aa.New.rd{A A':aa}{g:Nat}{c:Array Value}{t:TypeId}(h:A.New A' g c t){o n:Nat}(hle:o+n≤c.size):A'.rd g o n=some ((c.toList.drop o).take n):=rd_mk h.at_ hle
theorem aa.Put.sub{A A' B:aa}{g o:Nat}{vs:List Value}(h:A.Put A' g o vs)(hB:B.Sub A)(hg:B.blk g=none):B.Sub A':=fun k ob hk=>by
 rw [h.other k (fun e=>by subst e;rw [hg]at hk;cases hk)];exact hB k ob hk
theorem aa.Put.dom{A A':aa}{g o:Nat}{vs:List Value}(h:A.Put A' g o vs)(k:Nat):A'.blk k=none↔A.blk k=none:=by
 by_cases e:k=g
 ·subst e
  obtain⟨c,t,fz,c',h1,h2,_⟩:=h.at_;rw [h1,h2];simp
 ·rw [h.other k e]
def Sl(A:aa)(es n:Nat)(v:Value)(cs:List Value):Prop:=
 ∃ao c,v= .slice ao n c∧n≤c∧cs.length=n*es∧(ao=none→c=0)∧(∀a,ao=some a→0<c→a.spot=none)∧(0<n→∀a,ao=some a→A.rd a.block a.off (n*es)=some cs)
theorem Sl.at_{A:aa}{es n c:Nat}{ao:Option Addr}{cs:List Value}(h0:n≤c)(h1:ao=none→c=0)(h2:∀a,ao=some a→0<c→a.spot=none)(h3:0<n→∀a,ao=some a→A.rd a.block a.off (n*es)=some cs)(hn:0<n):
  ∃g o,ao=some ⟨g,o,none⟩∧A.rd g o (n*es)=some cs:=by
 cases ao with
 |none=>have:=h1 rfl;omega
 |some a=>
  obtain⟨g,o,t⟩:=a;have h4:=h2 _ rfl (by omega);simp only at h4;subst h4;exact⟨g,o,rfl,h3 hn _ rfl⟩
theorem Sl.sub{A B:aa}(h:B.Sub A){es n:Nat}{v:Value}{cs:List Value}(hs:Sl B es n v cs):Sl A es n v cs:=by
 obtain⟨ao,c,h1,h2,h3,h4,h5,h6⟩:=hs;exact⟨ao,c,h1,h2,h3,h4,h5,fun hn a ha=>aJ h (h6 hn a ha)⟩
theorem Sl.nil(A:aa)(es:Nat):Sl A es 0 (.slice none 0 0) []:=
 ⟨none,0,rfl,Nat.le_refl _,(by simp),fun _=>rfl,fun a h=>(by cases h),fun h=>(by omega)⟩
theorem Sl.zero(A:aa)(es:Nat){ao:Option Addr}{c:Nat}(h1:ao=none→c=0)(h2:∀a,ao=some a→0<c→a.spot=none):Sl A es 0 (.slice ao 0 c) []:=
 ⟨ao,c,rfl,Nat.zero_le _,(by simp),h1,h2,fun h=>(by omega)⟩
theorem Sl.row{A:aa}{es n g o c:Nat}{cs:List Value}(hc:n≤c)(h:A.rd g o (n*es)=some cs):Sl A es n (.slice (some ⟨g,o,none⟩) n c) cs:=
 ⟨_,c,rfl,hc,vC h,fun h=>(by cases h),fun a h _=>(by injection h with h;subst h;rfl),fun _ a ha=>(by injection ha with ha;subst ha;exact h)⟩
theorem Sl.form{A:aa}{es n:Nat}{v:Value}{cs:List Value}(h:Sl A es n v cs):∃ao c,v= .slice ao n c:=by
 obtain⟨ao,c,h,_⟩:=h;exact⟨ao,c,h⟩
def bv(b:UInt8):Value:= .int .u8 b.toNat
def SlB(A:aa)(v:Value)(bs:List UInt8):Prop:=Sl A 1 bs.length v (bs.map bv)∧bs.length≤140737488351232
theorem SlB.sub{A B:aa}(h:B.Sub A){v:Value}{bs:List UInt8}(hs:SlB B v bs):SlB A v bs:=⟨hs.1.sub h,hs.2⟩
theorem qU{A:aa}{g o n:Nat}{bs:List UInt8}(h:A.rd g o (n*1)=some (bs.map bv))(k:Nat)(hk:k<bs.length)(hn:n=bs.length):A.rd g (o+k*1) 1=some [bv bs[k]]:=by
 have:=cU (i:=k) (m:=1) h (by omega);rw [Nat.mul_one,this];congr 1;rw [List.drop_eq_getElem_cons (by simpa using hk)];simp [bv]
theorem lU{A:aa}{g o n es:Nat}{rows:List (List Value)}(h:A.rd g o (n*es)=some rows.flatten)(hes:∀r∈rows,r.length=es)(k:Nat)(hk:k<rows.length)(hn:n=rows.length):A.rd g (o+k*es) es=some rows[k]:=by
 subst hn
 have hle:k*es+es≤rows.length*es:=by
  have:=Nat.mul_le_mul_right es hk
  rwa [Nat.succ_mul]at this
 rw [cU h hle];congr 1
 have key:∀(l:List (List Value)) (k:Nat) (hk:k<l.length),(∀r∈l,r.length=es)→(l.flatten.drop (k*es)).take es=l[k]:=by
  intro l
  induction l with
  |nil=>intro k hk;simp at hk
  |cons r l ih=>
   intro k hk hes;have hr:=hes r (by simp)
   cases k with
   |zero=>simp [←hr]
   |succ k=>
    rw [List.flatten_cons,List.drop_append,List.drop_eq_nil_of_le (by rw [hr,Nat.succ_mul];omega),List.nil_append];rw [show(k+1)*es-r.length=k*es by rw [hr,Nat.succ_mul];omega];simpa using ih k (by simpa using hk) (fun r' h'=>hes r' (List.mem_cons_of_mem _ h'))
 exact key rows k hk hes
theorem er{A A1 A2:aa}{base:Option (Nat×Nat)}{es n:Nat}{e:TypeId}{ys:List Value}{v:Value}(h1:A.Sub A1)(ha:dC A1 base 0 0 es e [] ys n v A2)(hl:ys.length=n*es):A.Sub A2∧Sl (A2.minus A) es n v ys:=by
 rcases ha with⟨h0,rfl,h3⟩|⟨h0,g,nc,cs,zs,rfl,hn,hcs,_,hN⟩
 ·have hn:n=0:=by omega
  subst hn;have:ys= []:=List.length_eq_zero_iff.1 (by rw [hl];simp);subst this;refine⟨?_,?_⟩
  ·rcases h3 with⟨_,rfl⟩|⟨g,o,hb,hP⟩
   ·exact h1
   ·intro k o' hk
    by_cases e:k=g
    ·subst e
     obtain⟨c,t,fz,c',k1,k2,k3⟩:=hP.at_;have hcc:c'=c:=Array.toList_inj.1 (by rw [k3];simp);have:=h1 _ _ hk;rw [k1]at this;rw [k2,hcc];exact this
    ·rw [hP.other k e];exact h1 _ _ hk
  ·exact Sl.zero _ _ (fun _=>rfl) (fun a ha _=>by
    cases base with
    |none=>cases ha
    |some go=>injection ha with ha;subst ha;rfl)
 ·have hs:=h1.trans hN.sub
  refine⟨hs,?_⟩
  have hg:A.blk g=none:=by
   cases hA:A.blk g with
   |none=>rfl
   |some o=>have:=h1 _ _ hA;rw [hN.none_]at this;cases this
  rw [Nat.zero_add]at hn ⊢;refine Sl.row hn ?_;have hsz:cs.size=ys.length+zs.length:=by rw [←Array.length_toList,hcs];simp
  refine jA ?_ hg;rw [hN.rd (by omega),hcs];simp [hl]
theorem plain_v(v:Value):rJ (.v v)=some v:=rfl
theorem o6:∀(vs:List Value),iS (vs.map SV.v)=some vs
 | []=>rfl
 |v::vs=>by simp only [List.map_cons,iS,plain_v,o6 vs]
theorem aS{P:Program}(hm:P.follows .mixedOrders=true){f:FuncId}{S:aL}
  (hr:∀g vs A,S.pre g vs A→∃C Λ n,aF P C∧fe P Λ∧Run P C Λ n f (vs.map SV.v) A (ir S g vs A)):FOk P f S:=
 sL hm fun g vs A hp=>by
  obtain⟨C,Λ,n,h1,h2,h3⟩:=hr g vs A hp;exact⟨C,Λ,n,_,h1,h2,o6 vs,fun ρ x hx=>by obtain⟨v,_,rfl⟩:=List.mem_map.1 hx;trivial,h3⟩
theorem sN{P:Program}(hm:P.follows .mixedOrders=true){f:FuncId}{S:aL}(al:TypeId→Bool)
  (hr:∀g vs A,S.pre g vs A→∃C Λ n,aF P C∧fe P Λ∧Run P C Λ n f (vs.map SV.v) A (ir S g vs A) al):FOk P f S:=
 sM hm (fun _ _ _ _ _ h=>yL h) al fun g vs A hp=>by
  obtain⟨C,Λ,n,h1,h2,h3⟩:=hr g vs A hp;exact⟨C,Λ,n,_,h1,h2,o6 vs,fun ρ x hx=>by obtain⟨v,_,rfl⟩:=List.mem_map.1 hx;trivial,h3⟩
end
end Go.Sx
namespace Go.Proofs.YtphigpccfbfnoaaGreatDoor
open Go.Sx Go.RowKit
noncomputable section
open Classical
theorem AY{n:Int}(h0: -9223372036854775808≤n)(h1:n≤9223372036854775807):IntKind.i64.wrap n=n:=by
 simp only [IntKind.wrap,IntKind.bits,IntKind.signed];simp;omega
theorem cL{p:Prop}{i:Decidable p}{A B:Bool}(h1:p→B=true)(h2:¬p→A=true):(bif !(decide p)then A else B)=true:=by
 by_cases h:p
 ·rw [decide_eq_true h];exact h1 h
 ·rw [decide_eq_false h];exact h2 h
theorem mixed:Tryz.prog.follows .mixedOrders=true:=by kernel_rfl
def cnt(A:aa)(s:Nat)(bk keepB:List Nat)(n:Nat)(p:Nat→Prop):dE:= { γ:=Nat,G:=fun k=>k≤n∧p k,keepS:=bk,keepB:=keepB,sl:=fun k=> [(s,.v (.int .i64 k))],bl:=fun _=> [],ar:=fun _=>A,mu:=fun k=>n-k }
theorem av{k:Nat}(h:k<9223372036854775807):some (SV.v (.int .i64 (IntKind.i64.wrap ((k:Int)+1))))=some (SV.v (.int .i64 ((k+1:Nat):Int))):=by
 rw [Sx.wrap_i64 (by omega) (by omega)];rfl
theorem bh{l m:List UInt8} :eW l m=true↔l=m:=by rw [cP];simp
theorem cr{l m:List UInt8} :eW l m=false↔¬l=m:=by rw [←bh];simp
theorem fx{P:Program}{f:FuncId}{args:Array Value}{w:World}{Φ:Value→World→Prop}{fn:Func}(hf:P.funcs[f]? =some fn)(h1:(fn.name== "runtime.NumGoroutine")=false∧fn.body.isNone=false)
  (h:Calls P f args w fun e w'=>∃v,e= .returned v∧Φ v w'):dZ P f args w Φ fun _ _=>False:=by
 refine .inl ⟨fn,hf,h1,fun cs=> ?_⟩;obtain⟨e,w',fr,k1,k2⟩:=h cs;exact⟨e,w',fr,.inl k1,k2⟩
end
end Go.Proofs.YtphigpccfbfnoaaGreatDoor
namespace Go.Sx
noncomputable section
def bq(A1 A:aa)(es:Nat)(e:TypeId)(n:Nat)(v:Value)(cs:List Value):Prop:=
 cs.length=n*es∧((n=0∧v= .slice none 0 0)∨
  ∃g nc c,v= .slice (some ⟨g,0,none⟩) n nc∧n≤nc∧0<nc∧A1.blk g=none∧A.blk g=some (.cells c e (0,0))∧c.size=nc*es∧c.toList.take (n*es)=cs)
theorem bq.nil(A1 A:aa)(es:Nat)(e:TypeId):bq A1 A es e 0 (.slice none 0 0) []:=⟨by simp,.inl ⟨rfl,rfl⟩⟩
theorem bq.bk{A1 A A':aa}{es:Nat}{e:TypeId}{n:Nat}{v:Value}{cs:List Value}(h:bq A1 A es e n v cs)(hk:∀k,A1.blk k=none→A'.blk k=A.blk k):bq A1 A' es e n v cs:=by
 obtain⟨h1,h2|⟨g,nc,c,h3,h4,h4',h5,h6,h7,h8⟩⟩:=h
 ·exact⟨h1,.inl h2⟩
 ·exact⟨h1,.inr ⟨g,nc,c,h3,h4,h4',h5,by rw [hk g h5];exact h6,h7,h8⟩⟩
theorem bq.sub{A1 A A':aa}{es:Nat}{e:TypeId}{n:Nat}{v:Value}{cs:List Value}(h:bq A1 A es e n v cs)(hk:A.Sub A'):bq A1 A' es e n v cs:=by
 obtain⟨h1,h2|⟨g,nc,c,h3,h4,h4',h5,h6,h7,h8⟩⟩:=h
 ·exact⟨h1,.inl h2⟩
 ·exact⟨h1,.inr ⟨g,nc,c,h3,h4,h4',h5,hk g _ h6,h7,h8⟩⟩
structure GrowP(A:aa)(base:Option (Nat×Nat))(n c es bytes:Nat)(cs:List Value):Prop where
 rd:kA A base (n*es)=some cs
 cap:c<n+1→Builtin.nextslicecap (n+1) c*bytes≤281474976710656
 none_:base=none→n=0∧c=0
 room:∀(m:Nat),m=es→∀g o,base=some (g,o)→n+1≤c→A.Room g (o+n*es) m
theorem bq.form{A1 A:aa}{es:Nat}{e:TypeId}{n:Nat}{v:Value}{cs:List Value}(h:bq A1 A es e n v cs):
  ∃base c,v= .slice (aD base) n c∧(base=none∨∃g,base=some (g,0))∧(∀bytes,bytes≤65536→n≤1000000000→GrowP A base n c es bytes cs)∧
  ∀ys v' A',ys.length=es→(∀k,A.blk k=none→A1.blk k=none)→dC A base n c es e cs ys 1 v' A'→bq A1 A' es e (n+1) v' (cs++ys)∧∀k o,A1.blk k=some o→A'.blk k=A.blk k:=by
 obtain⟨hl,⟨rfl,rfl⟩|⟨g,nc,c,rfl,hn,hpos,hg,hb,hsz,ht⟩⟩:=h
 ·have hcs:cs= []:=List.length_eq_zero_iff.1 (by rw [hl];simp)
  subst hcs;refine⟨none,0,rfl,.inl rfl,fun bytes hby hn=>⟨by simp [kA],fun h=> ?_,fun _=>⟨rfl,rfl⟩,fun _ _ _ _ h=>(by cases h)⟩,fun ys v' A' hy hd ha=> ?_⟩
  ·have:=gD h
   calc _≤(2*(0+1)+768)*65536:=Nat.mul_le_mul this hby
    _≤_:=by omega
  ·rcases ha with⟨h0,_⟩|⟨_,g,nc,c,zs,rfl,hnc,hc,hz,hN⟩
   ·omega
   ·refine⟨⟨by simp [hy],.inr ⟨g,nc,c,rfl,hnc,by omega,hd g hN.none_,hN.at_,?_,?_⟩⟩,fun k o hk=>hN.other k fun e=>(by subst e;rw [hd _ hN.none_]at hk;cases hk)⟩
    ·rw [←Array.length_toList,hc]
     simp only [List.nil_append,List.length_append,hy,hz,Nat.zero_add];have:nc=(nc-1)+1:=by omega
     rw [show nc*es=((nc-1)+1)*es by rw [←this],Nat.succ_mul];omega
    ·rw [hc];simp [hy]
 ·have hle:n*es≤nc*es:=Nat.mul_le_mul_right _ hn
  refine⟨some (g,0),nc,rfl,.inr ⟨g,rfl⟩,fun bytes hby hnb=>⟨?_,fun h=> ?_,fun h=>(by cases h),fun m hm g' o' h hlt=> ?_⟩,fun ys v' A' hy hd ha=> ?_⟩
  ·show(if n*es=0 then some []else A.rd g 0 (n*es))=some cs
   by_cases h0:n*es=0
   ·rw [if_pos h0]
    rw [h0]at hl;rw [List.length_eq_zero_iff.1 hl]
   ·rw [if_neg h0,rd_mk hb (by omega)];simp [ht]
  ·have:=gD h
   calc _≤(2*(n+1)+768)*65536:=Nat.mul_le_mul this hby
    _≤_:=by omega
  ·injection h with h;injection h with h1 h2;subst h1;subst h2;subst hm
   refine⟨c,e,(0,0),hb,?_,.inl rfl⟩;have:=Nat.mul_le_mul_right m hlt;rw [Nat.succ_mul]at this;omega
  ·rcases ha with⟨h0,rfl,h3⟩|⟨h0,g',nc',c',zs,rfl,hnc,hc,hz,hN⟩
   ·obtain⟨c',k1,k2,k3⟩:∃c',A'.blk g=some (.cells c' e (0,0))∧(∀k,k≠g→A'.blk k=A.blk k)∧c'.toList=c.toList.take (n*es)++ys++c.toList.drop (n*es+ys.length):=by
      rcases h3 with⟨rfl,rfl⟩|⟨g',o',h,hP⟩
      ·exact⟨c,hb,fun _ _=>rfl,by simp⟩
      ·injection h with h;injection h with h1 h2;subst h1;subst h2
       obtain⟨c0,t0,fz0,c',k1,k2,k3⟩:=hP.at_;rw [hb]at k1;injection k1 with k1;injection k1 with k1 k1' k1''
       subst k1;subst k1';subst k1''
       exact⟨c',k2,hP.other,by rw [k3];simp⟩
    have hlen:n*es+es≤nc*es:=by rw [←Nat.succ_mul];exact Nat.mul_le_mul_right _ h0
    refine⟨⟨by simp [hl,hy,Nat.succ_mul],.inr ⟨g,nc,c',rfl,h0,hpos,hg,k1,?_,?_⟩⟩,fun k o hk=>k2 k fun e=>(by subst e;rw [hg]at hk;cases hk)⟩
    ·rw [←Array.length_toList,k3]
     simp only [List.length_append,List.length_take,List.length_drop,Array.length_toList,hsz,hy];omega
    ·rw [k3,ht]
     rw [List.take_append_of_le_length (by simp [hl,hy,Nat.succ_mul])];rw [List.take_of_length_le (by simp [hl,hy,Nat.succ_mul])]
   ·refine⟨⟨by simp [hl,hy,Nat.succ_mul],.inr ⟨g',nc',c',rfl,hnc,by omega,hd g' hN.none_,hN.at_,?_,?_⟩⟩,fun k o hk=>hN.other k fun e=>(by subst e;rw [hd _ hN.none_]at hk;cases hk)⟩
    ·rw [←Array.length_toList,hc]
     simp only [List.length_append,hl,hy,hz];obtain⟨d,rfl⟩:∃d,nc'=(n+1)+d:=⟨nc'-(n+1),by omega⟩;rw [Nat.add_sub_cancel_left,Nat.add_mul,Nat.add_mul];omega
    ·rw [hc]
     rw [List.take_append_of_le_length (by simp [hl,hy,Nat.succ_mul])];rw [List.take_of_length_le (by simp [hl,hy,Nat.succ_mul])]
structure Cm(A:aa)(base:Option (Nat×Nat))(n m c es bytes:Nat)(cs:List Value):Prop where
 rd:kA A base (n*es)=some cs
 cap:c<n+m→Builtin.nextslicecap (n+m) c*bytes≤281474976710656
 none_:base=none→n=0∧c=0
 room:∀(k:Nat),k=m*es→∀g o,base=some (g,o)→n+m≤c→A.Room g (o+n*es) k
theorem bq.ff{A1 A:aa}{es:Nat}{e:TypeId}{n:Nat}{v:Value}{cs:List Value}(h:bq A1 A es e n v cs):
  ∃base c,v= .slice (aD base) n c∧(base=none∨∃g,base=some (g,0))∧(∀m bytes,bytes≤65536→n+m≤1000000000→Cm A base n m c es bytes cs)∧
  ∀m ys v' A',ys.length=m*es→(∀k,A.blk k=none→A1.blk k=none)→dC A base n c es e cs ys m v' A'→bq A1 A' es e (n+m) v' (cs++ys)∧∀k o,A1.blk k=some o→A'.blk k=A.blk k:=by
 obtain⟨hl,⟨rfl,rfl⟩|⟨g,nc,c,rfl,hn,hpos,hg,hb,hsz,ht⟩⟩:=h
 ·have hcs:cs= []:=List.length_eq_zero_iff.1 (by rw [hl];simp)
  subst hcs;refine⟨none,0,rfl,.inl rfl,fun m bytes hby hn=>⟨by simp [kA],fun h=> ?_,fun _=>⟨rfl,rfl⟩,fun _ _ _ _ h=>(by cases h)⟩,fun m ys v' A' hy hd ha=> ?_⟩
  ·have:=gD h
   calc _≤(2*(0+m)+768)*65536:=Nat.mul_le_mul this hby
    _≤_:=by omega
  ·rcases ha with⟨h0,rfl,h3⟩|⟨hlt,g,nc,c,zs,rfl,hnc,hc,hz,hN⟩
   ·have hm:m=0:=by omega
    subst hm;have hys:ys= []:=List.length_eq_zero_iff.1 (by rw [hy];simp);subst hys;rcases h3 with⟨_,rfl⟩|⟨g,o,h,_⟩
    ·exact⟨bq.nil _ _ _ _,fun _ _ _=>rfl⟩
    ·cases h
   ·refine⟨⟨by simp [hy],.inr ⟨g,nc,c,rfl,hnc,by omega,hd g hN.none_,hN.at_,?_,?_⟩⟩,fun k o hk=>hN.other k fun e=>(by subst e;rw [hd _ hN.none_]at hk;cases hk)⟩
    ·rw [←Array.length_toList,hc]
     simp only [List.nil_append,List.length_append,hy,hz,Nat.zero_add];rw [←Nat.add_mul];congr 1;omega
    ·rw [hc,Nat.zero_add,List.nil_append,List.take_append_of_le_length (by omega),List.take_of_length_le (by omega)]
 ·have hle:n*es≤nc*es:=Nat.mul_le_mul_right _ hn
  refine⟨some (g,0),nc,rfl,.inr ⟨g,rfl⟩,fun m bytes hby hnb=>⟨?_,fun h=> ?_,fun h=>(by cases h),fun k hk g' o' h hlt=> ?_⟩,fun m ys v' A' hy hd ha=> ?_⟩
  ·show(if n*es=0 then some []else A.rd g 0 (n*es))=some cs
   by_cases h0:n*es=0
   ·rw [if_pos h0]
    rw [h0]at hl;rw [List.length_eq_zero_iff.1 hl]
   ·rw [if_neg h0,rd_mk hb (by omega)];simp [ht]
  ·have:=gD h
   calc _≤(2*(n+m)+768)*65536:=Nat.mul_le_mul this hby
    _≤_:=by omega
  ·injection h with h;injection h with h1 h2;subst h1;subst h2;subst hk
   refine⟨c,e,(0,0),hb,?_,.inl rfl⟩;have:=Nat.mul_le_mul_right es hlt;rw [Nat.add_mul]at this;omega
  ·rcases ha with⟨h0,rfl,h3⟩|⟨h0,g',nc',c',zs,rfl,hnc,hc,hz,hN⟩
   ·obtain⟨c',k1,k2,k3⟩:∃c',A'.blk g=some (.cells c' e (0,0))∧(∀k,k≠g→A'.blk k=A.blk k)∧c'.toList=c.toList.take (n*es)++ys++c.toList.drop (n*es+ys.length):=by
      rcases h3 with⟨rfl,rfl⟩|⟨g',o',h,hP⟩
      ·exact⟨c,hb,fun _ _=>rfl,by simp⟩
      ·injection h with h;injection h with h1 h2;subst h1;subst h2
       obtain⟨c0,t0,fz0,c',k1,k2,k3⟩:=hP.at_;rw [hb]at k1;injection k1 with k1;injection k1 with k1 k1' k1''
       subst k1;subst k1';subst k1''
       exact⟨c',k2,hP.other,by rw [k3];simp⟩
    have hlen:n*es+m*es≤nc*es:=by rw [←Nat.add_mul];exact Nat.mul_le_mul_right _ h0
    have hcl:(cs++ys).length=(n+m)*es:=by rw [List.length_append,hl,hy,Nat.add_mul]
    refine⟨⟨hcl,.inr ⟨g,nc,c',rfl,h0,hpos,hg,k1,?_,?_⟩⟩,fun k o hk=>k2 k fun e=>(by subst e;rw [hg]at hk;cases hk)⟩
    ·rw [←Array.length_toList,k3]
     simp only [List.length_append,List.length_take,List.length_drop,Array.length_toList,hsz,hy];omega
    ·rw [k3,ht,List.take_append_of_le_length (by omega),List.take_of_length_le (by omega)]
   ·have hcl:(cs++ys).length=(n+m)*es:=by rw [List.length_append,hl,hy,Nat.add_mul]
    refine⟨⟨hcl,.inr ⟨g',nc',c',rfl,hnc,by omega,hd g' hN.none_,hN.at_,?_,?_⟩⟩,fun k o hk=>hN.other k fun e=>(by subst e;rw [hd _ hN.none_]at hk;cases hk)⟩
    ·rw [←Array.length_toList,hc]
     simp only [List.length_append,hl,hy,hz];rw [←Nat.add_mul,←Nat.add_mul];congr 1;omega
    ·rw [hc,List.take_append_of_le_length (by omega),List.take_of_length_le (by omega)]
theorem dJ{b b':Option (Nat×Nat)}(h:aD b=aD b'):b=b':=by
 cases b with
 |none=>cases b' with
  |none=>rfl
  |some y=>cases h
 |some x=>cases b' with
  |none=>cases h
  |some y=>
   obtain⟨g,o⟩:=x;obtain⟨g',o'⟩:=y;injection h with h
   injection h with h1 h2
   rw [h1,h2]
theorem bq.fy{A1 A:aa}{es:Nat}{e:TypeId}{n c:Nat}{base:Option (Nat×Nat)}{cs:List Value}(h:bq A1 A es e n (.slice (aD base) n c) cs):
  (∀m bytes,bytes≤65536→n+m≤1000000000→Cm A base n m c es bytes cs)∧
  ∀m ys v' A',ys.length=m*es→(∀k,A.blk k=none→A1.blk k=none)→dC A base n c es e cs ys m v' A'→bq A1 A' es e (n+m) v' (cs++ys)∧∀k o,A1.blk k=some o→A'.blk k=A.blk k:=by
 obtain⟨b',c',hv,_,h1,h2⟩:=h.ff;injection hv with hv1 hv2 hv3
 have e:=dJ hv1;subst e;subst hv3
 exact⟨h1,h2⟩
theorem bq.sl{A1 A:aa}{es:Nat}{e:TypeId}{n:Nat}{v:Value}{cs:List Value}(h:bq A1 A es e n v cs):Sl A es n v cs:=by
 obtain⟨h1,⟨rfl,rfl⟩|⟨g,nc,c,rfl,h4,h4',h5,h6,h7,h8⟩⟩:=h
 ·have hc:cs= []:=List.length_eq_zero_iff.1 (by rw [h1];simp)
  subst hc;exact Sl.nil _ _
 ·have hle:n*es≤nc*es:=Nat.mul_le_mul_right _ h4
  refine Sl.row h4 ?_;rw [rd_mk h6 (by omega),List.drop_zero,h8]
end
end Go.Sx
