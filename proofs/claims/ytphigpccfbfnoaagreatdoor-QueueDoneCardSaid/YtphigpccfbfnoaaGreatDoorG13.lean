/-
  Parts of the proof: SxT
-/
import Derived.Test.YtphigpccfbfnoaaGreatDoorG12
set_option maxRecDepth 100000
set_option maxHeartbeats 0
namespace Go.Sx
noncomputable section
variable {dfs : List Deferred}
def GB(b:UInt8)(k:UInt8→Bool):Bool:=eF b.toNat fun n=>k (UInt8.ofNat n)
theorem GA(b:UInt8)(k:UInt8→Bool):GB b k=k b:=by simp [GB,cF]
def wP:List UInt8→(List UInt8→Bool)→Bool
 | [],k=>k []
 |b::l,k=>GB b fun b=>wP l fun l=>k (b::l)
theorem uU:∀(l:List UInt8) (k:List UInt8→Bool),wP l k=k l
 | [],_=>rfl
 |b::l,k=>by rw [wP,GA,uU l]
def rY:List Nat→(List Nat→Bool)→Bool
 | [],k=>k []
 |b::l,k=>eF b fun b=>rY l fun l=>k (b::l)
theorem ll:∀(l:List Nat) (k:List Nat→Bool),rY l k=k l
 | [],_=>rfl
 |b::l,k=>by rw [rY,cF,ll l]
def tC{α:Type}(f:Nat):T α→Nat→α→(T α→Bool)→Bool:=
 Nat.rec (motive:=fun _=>T α→Nat→α→(T α→Bool)→Bool) (fun _ _ _ k=>k .e)
  (fun _ ih t i x k=>T.rec (motive:=fun _=>Bool)
    (Nat.rec (motive:=fun _=>Bool) (k (.n .e (some x) .e)) (fun j _=>Bool.rec (motive:=fun _=>Bool) (ih .e (Nat.div j 2) x fun r=>k (.n .e none r)) (ih .e (Nat.div j 2) x fun l=>k (.n l none .e)) (Nat.beq (Nat.mod j 2) 0)) i)
    (fun l v r _ _=>Nat.rec (motive:=fun _=>Bool) (k (.n l (some x) r)) (fun j _=>Bool.rec (motive:=fun _=>Bool) (ih r (Nat.div j 2) x fun r=>k (.n l v r)) (ih l (Nat.div j 2) x fun l=>k (.n l v r)) (Nat.beq (Nat.mod j 2) 0)) i) t) f
theorem qJ{α:Type} :∀(f:Nat) (t:T α) (i:Nat) (x:α) (k:T α→Bool),tC f t i x k=k (T.oN f t i (some x)):=by
 intro f
 induction f with
 |zero=>intro t i x k;rfl
 |succ f ih=>
  intro t i x k
  cases t with
  |e=>cases i with
   |zero=>rfl
   |succ j=>
    rw [T.vq];show Bool.rec (motive:=fun _=>Bool) (tC f .e (j/2) x fun r=>k (.n .e none r)) (tC f .e (j/2) x fun l=>k (.n l none .e)) (Nat.beq (j%2) 0)=_
    rw [ih,ih]
    cases Nat.beq (j%2) 0<;>rfl
  |n l v r=>cases i with
   |zero=>rfl
   |succ j=>
    rw [T.vo];show Bool.rec (motive:=fun _=>Bool) (tC f r (j/2) x fun r=>k (.n l v r)) (tC f l (j/2) x fun l=>k (.n l v r)) (Nat.beq (j%2) 0)=_
    rw [ih,ih]
    cases Nat.beq (j%2) 0<;>rfl
def posN(b:Nat):List Nat→Nat→Option Nat
 | [],_=>none
 |x::xs,i=>bif Nat.beq x b then some i else posN b xs (Nat.succ i)
theorem CV(b:Nat):∀(l:List Nat) (i k:Nat),posN b l i=some k→i≤k∧l[k-i]? =some b:=by
 intro l
 induction l with
 |nil=>intro i k h;cases h
 |cons x xs ih=>
  intro i k h;simp only [posN]at h
  cases hb:Nat.beq x b with
  |true=>
   rw [hb]at h;injection h with h;subst h
   have:=Nat.eq_of_beq_eq_true hb;subst this;exact⟨Nat.le_refl _,by simp⟩
  |false=>
   rw [hb]at h;obtain⟨h1,h2⟩:=ih _ _ h;refine⟨Nat.le_of_succ_le h1,?_⟩;rw [show k-i=(k-(i+1))+1 by omega,List.getElem?_cons_succ];exact h2
def ixN(n0:Nat)(L:List Nat)(b:Nat):Option Nat:=bif Nat.blt b n0 then some b else posN b L n0
def dV(n0:Nat)(L:List Nat)(k:Nat):Nat:=if k<n0 then k else L.getD (k-n0) 0
theorem fu{n0:Nat}{L:List Nat}{b k:Nat}(h:ixN n0 L b=some k):dV n0 L k=b∧k<n0+L.length:=by
 unfold ixN at h;unfold dV
 cases hb:Nat.blt b n0 with
 |true=>
  rw [hb]at h;injection h with h;subst h
  have:b<n0:=Nat.le_of_ble_eq_true hb;exact⟨by rw [if_pos this],by omega⟩
 |false=>
  rw [hb]at h;obtain⟨h1,h2⟩:=CV b L n0 k h;rw [if_neg (by omega),List.getD_eq_getElem?_getD,h2];have:=(List.getElem?_eq_some_iff.1 h2).1;exact⟨rfl,by omega⟩
def tH(n0:Nat)(L:List Nat):df→Option df
 | .lit c=>some (.lit c)
 | .sub b d=>match ixN n0 L b with
   |some b=>some (.sub b d)
   |none=>none
mutual
def eu(n0:Nat)(L:List Nat):SV→Option SV
 | .v x=>some (.v x)
 | .str l=>some (.str l)
 | .ptr b o=>match ixN n0 L b with
   |some b=>some (.ptr b o)
   |none=>none
 | .slc b o l c=>match ixN n0 L b,tH n0 L c with
   |some b,some c=>some (.slc b o l c)
   |_,_=>none
 | .mp b=>match ixN n0 L b with
   |some b=>some (.mp b)
   |none=>none
 | .agg cs=>match gk n0 L cs with
   |some cs=>some (.agg cs)
   |none=>none
 | .tup cs=>match gk n0 L cs with
   |some cs=>some (.tup cs)
   |none=>none
 | .ifc t x=>match eu n0 L x with
   |some x=>some (.ifc t x)
   |none=>none
 | .fn f cs=>match gk n0 L cs with
   |some cs=>some (.fn f cs)
   |none=>none
def gk(n0:Nat)(L:List Nat):List SV→Option (List SV)
 | []=>some []
 |x::xs=>match eu n0 L x with
  |some x=>match gk n0 L xs with
   |some xs=>some (x::xs)
   |none=>none
  |none=>none
end
theorem EU{n0:Nat}{L:List Nat}{ρ:Nat→Loc}{c c':df}(h:tH n0 L c=some c'):c'.den (fun k=>ρ (dV n0 L k))=c.den ρ∧c'.lt (n0+L.length):=by
 cases c with
 |lit c=>simp only [tH,Option.some.injEq]at h;subst h;exact⟨rfl,trivial⟩
 |sub b d=>
  simp only [tH]at h
  split at h
  ·rename_i b' hb
   injection h with h;subst h
   obtain⟨h1,h2⟩:=fu hb;exact⟨by simp [df.den,h1],h2⟩
  ·cases h
mutual
theorem jy{n0 n:Nat}{L:List Nat}{ρ:Nat→Loc} :∀(x x':SV),eu n0 L x=some x'→x.lt ρ n→x'.den (fun k=>ρ (dV n0 L k))=x.den ρ∧x'.lt (fun k=>ρ (dV n0 L k)) (n0+L.length)
 | .v x,x',h,_=>by simp only [eu,Option.some.injEq]at h;subst h;exact⟨rfl,trivial⟩
 | .str l,x',h,_=>by simp only [eu,Option.some.injEq]at h;subst h;exact⟨rfl,trivial⟩
 | .ptr b o,x',h,_=>by
   simp only [eu]at h
   split at h
   ·rename_i b' hb
    injection h with h;subst h
    obtain⟨h1,h2⟩:=fu hb;exact⟨by simp [SV.den,h1],h2⟩
   ·cases h
 | .slc b o l c,x',h,hl=>by
   simp only [eu]at h
   split at h
   ·rename_i b' c' hb hc
    injection h with h;subst h
    obtain⟨h1,h2⟩:=fu hb;obtain⟨h3,h4⟩:=EU (ρ:=ρ) hc;exact⟨by simp [SV.den,h1,h3],h2,h4,by rw [h3];exact hl.2.2⟩
   ·cases h
 | .mp b,x',h,_=>by
   simp only [eu]at h
   split at h
   ·rename_i b' hb
    injection h with h;subst h
    obtain⟨h1,h2⟩:=fu hb;exact⟨by simp [SV.den,h1],h2⟩
   ·cases h
 | .agg cs,x',h,hl=>by
   simp only [eu]at h
   split at h
   ·rename_i cs' hc
    injection h with h;subst h
    obtain⟨h1,h2⟩:=jw cs cs' hc hl;exact⟨by simp only [SV.den,h1],h2⟩
   ·cases h
 | .tup cs,x',h,hl=>by
   simp only [eu]at h
   split at h
   ·rename_i cs' hc
    injection h with h;subst h
    obtain⟨h1,h2⟩:=jw cs cs' hc hl;exact⟨by simp only [SV.den,h1],h2⟩
   ·cases h
 | .ifc t x,x',h,hl=>by
   simp only [eu]at h
   split at h
   ·rename_i y hy
    injection h with h;subst h
    obtain⟨h1,h2⟩:=jy x y hy hl;exact⟨by simp only [SV.den,h1],h2⟩
   ·cases h
 | .fn f cs,x',h,hl=>by
   simp only [eu]at h
   split at h
   ·rename_i cs' hc
    injection h with h;subst h
    obtain⟨h1,h2⟩:=jw cs cs' hc hl;exact⟨by simp only [SV.den,h1],h2⟩
   ·cases h
theorem jw{n0 n:Nat}{L:List Nat}{ρ:Nat→Loc} :∀(l l':List SV),gk n0 L l=some l'→SV.lts ρ n l→SV.iO (fun k=>ρ (dV n0 L k)) l'=SV.iO ρ l∧SV.lts (fun k=>ρ (dV n0 L k)) (n0+L.length) l'
 | [],l',h,_=>by simp only [gk,Option.some.injEq]at h;subst h;exact⟨rfl,trivial⟩
 |x::xs,l',h,hl=>by
  simp only [gk]at h
  split at h
  ·rename_i x' hx
   split at h
   ·rename_i xs' hxs
    injection h with h;subst h
    obtain⟨h1,h2⟩:=jy x x' hx hl.1;obtain⟨h3,h4⟩:=jw xs xs' hxs hl.2;exact⟨by simp only [SV.iO,h1,h3],h2,h4⟩
   ·cases h
  ·cases h
end
def nH(n0:Nat)(L:List Nat):List (SV×SV×Nat)→Option (List (SV×SV×Nat))
 | []=>some []
 |e::es=>match eu n0 L e.1 with
  |some k=>match eu n0 L e.2.1 with
   |some v=>match nH n0 L es with
    |some es=>some ((k,v,e.2.2)::es)
    |none=>none
   |none=>none
  |none=>none
def kI(n0:Nat)(L:List Nat):bS→Option bS
 | .cells cs es τ=>match gk n0 L cs with
   |some cs=>some (.cells cs es τ)
   |none=>none
 | .map es clock=>match nH n0 L es with
   |some es=>some (.map es clock)
   |none=>none
 | .siter s pos=>some (.siter s pos)
 | .miter m since seen last=>match ixN n0 L m with
   |some m=>some (.miter m since seen last)
   |none=>none
theorem CL{n0 n:Nat}{L:List Nat}{ρ:Nat→Loc} :∀(es es':List (SV×SV×Nat)),nH n0 L es=some es'→(∀e∈es,e.1.lt ρ n∧e.2.1.lt ρ n)→
  es'.map (aY fun k=>ρ (dV n0 L k))=es.map (aY ρ)∧∀e∈es',e.1.lt (fun k=>ρ (dV n0 L k)) (n0+L.length)∧e.2.1.lt (fun k=>ρ (dV n0 L k)) (n0+L.length):=by
 intro es
 induction es with
 |nil=>intro es' h _;simp only [nH,Option.some.injEq]at h;subst h;exact⟨rfl,fun _ h=>by cases h⟩
 |cons e es ih=>
  intro es' h hl;simp only [nH]at h
  split at h
  ·rename_i k hk
   split at h
   ·rename_i v hv
    split at h
    ·rename_i es1 hes
     injection h with h;subst h
     obtain⟨l1,l2⟩:=hl e List.mem_cons_self;obtain⟨h1,h2⟩:=jy _ _ hk l1;obtain⟨h3,h4⟩:=jy _ _ hv l2;obtain⟨h5,h6⟩:=ih es1 hes fun e he=>hl e (List.mem_cons_of_mem _ he)
     refine⟨by simp [aY,h1,h3,h5],fun e' he=> ?_⟩;rcases List.mem_cons.1 he with rfl|he
     ·exact⟨h2,h4⟩
     ·exact h6 e' he
    ·cases h
   ·cases h
  ·cases h
theorem EV{n0 n:Nat}{L:List Nat}{ρ:Nat→Loc}{B B':bS}(h:kI n0 L B=some B')(hl:B.lt ρ n){loc:Loc}{w:World}(hr:B.Rel ρ loc w):
  B'.lt (fun k=>ρ (dV n0 L k)) (n0+L.length)∧B'.Rel (fun k=>ρ (dV n0 L k)) loc w:=by
 cases B with
 |cells cs es τ=>
  simp only [kI]at h
  split at h
  ·rename_i cs' hc
   injection h with h;subst h
   obtain⟨h1,h2⟩:=jw cs cs' hc (eh.2 hl);refine⟨eh.1 h2,?_⟩;obtain⟨c,t,fz,k1,k2,k3,k4,k5⟩:=hr;rw [dP,dP]at h1
   have hl1:cs'.length=cs.length:=by
    have:=congrArg List.length h1;simpa using this
   refine⟨c,t,fz,k1,fun i x hx=> ?_,k3,?_,by rw [hl1];exact k5⟩
   ·have e1:(cs'.map (SV.den fun k=>ρ (dV n0 L k)))[i]? =some (x.den fun k=>ρ (dV n0 L k)):=by rw [List.getElem?_map,hx];rfl
    rw [h1,List.getElem?_map]at e1
    cases hy:cs[i]? with
    |none=>rw [hy]at e1;cases e1
    |some y=>
     rw [hy]at e1;injection e1 with e1
     rw [←e1];exact k2 i y hy
   ·have:cs'.length=cs.length:=by
      have:=congrArg List.length h1;simpa using this
    rw [this];exact k4
  ·cases h
 |map es clock=>
  simp only [kI]at h
  split at h
  ·rename_i es' hes
   injection h with h;subst h
   obtain⟨h1,h2⟩:=CL es es' hes hl;refine⟨h2,?_⟩;show w.heap[loc.blk]? =some (.map (es'.map (aY fun k=>ρ (dV n0 L k))).toArray clock)
   rw [h1];exact hr
  ·cases h
 |siter s pos=>simp only [kI,Option.some.injEq]at h;subst h;exact⟨trivial,hr⟩
 |miter m since seen last=>
  simp only [kI]at h
  split at h
  ·rename_i m' hm
   injection h with h;subst h
   obtain⟨h1,h2⟩:=fu hm;refine⟨h2,hr.1,?_⟩;show w.heap[loc.blk]? =some (.mapIter (some (ρ (dV n0 L m')).blk) since seen.toArray last)
   rw [h1];exact hr.2
  ·cases h
def vA(n0:Nat)(L:List Nat)(H:T bS):List Nat→T bS→Option (T bS)
 | [],acc=>some acc
 |b::bs,acc=>match H.get b with
  |none=>vA n0 L H bs acc
  |some B=>match ixN n0 L b with
   |none=>none
   |some k=>match kI n0 L B with
    |none=>none
    |some B'=>vA n0 L H bs (acc.set k B')
theorem uk{n0:Nat}{L:List Nat}{H:T bS} :∀(bs:List Nat) (acc acc':T bS),vA n0 L H bs acc=some acc'→
  (∀k B',acc.get k=some B'→∃b B,H.get b=some B∧ixN n0 L b=some k∧kI n0 L B=some B')→∀k B',acc'.get k=some B'→∃b B,H.get b=some B∧ixN n0 L b=some k∧kI n0 L B=some B':=by
 intro bs
 induction bs with
 |nil=>intro acc acc' h hi;simp only [vA,Option.some.injEq]at h;subst h;exact hi
 |cons b bs ih=>
  intro acc acc' h hi;simp only [vA]at h
  split at h
  ·exact ih _ _ h hi
  ·rename_i B hB
   split at h
   ·cases h
   ·rename_i k hk
    split at h
    ·cases h
    ·rename_i B' hB'
     refine ih _ _ h fun k2 B2 h2=> ?_
     rcases T.cI h2 with⟨rfl,rfl⟩|⟨_,h2⟩
     ·exact⟨b,B,hB,hk,hB'⟩
     ·exact hi k2 B2 h2
theorem ba.ren{ρ:Nat→Loc}{h:HS}{w:World}(R:ba ρ h w){n0:Nat}{L:List Nat}{H':T bS}(hH:∀k B',H'.get k=some B'→∃b B,h.H.get b=some B∧ixN n0 L b=some k∧kI n0 L B=some B'):
  ba (fun k=>ρ (dV n0 L k)) ⟨H',n0+L.length,h.M⟩ w where
 os:=R.os
 out:=R.out
 tape:=R.tape
 mem:=R.mem
 blk:=fun k B' hk=>by
  obtain⟨b,B,h1,h2,h3⟩:=hH k B' hk;obtain⟨_,k2,k3⟩:=R.blk b B h1;obtain⟨g1,g2⟩:=fu h2;obtain⟨f1,f2⟩:=EV h3 k2 k3;refine⟨g2,f1,?_⟩;show B'.Rel _ (ρ (dV n0 L k)) w
  rw [g1];exact f2
 inj:=fun k k' B B' hk hk' he=>by
  obtain⟨b,C,h1,h2,_⟩:=hH k B hk;obtain⟨b',C',h1',h2',_⟩:=hH k' B' hk';obtain⟨g1,_⟩:=fu h2;obtain⟨g1',_⟩:=fu h2';have he:(ρ (dV n0 L k)).blk=(ρ (dV n0 L k')).blk:=he;rw [g1,g1']at he;have:=R.inj b b' C C' h1 h1' he;subst this;rw [h2]at h2';injection h2'
 apart:=fun k B hk=>by
  obtain⟨b,C,h1,h2,_⟩:=hH k B hk;obtain⟨g1,_⟩:=fu h2;show h.M.blk (ρ (dV n0 L k)).blk=none
  rw [g1];exact R.apart b C h1
 are:=R.are
 aprA:=fun k B hk=>by
  obtain⟨b,C,h1,h2,_⟩:=hH k B hk;obtain⟨g1,_⟩:=fu h2;show h.M.A.blk (ρ (dV n0 L k)).blk=none
  rw [g1];exact R.aprA b C h1
 disj:=R.disj
def ixK(n0:Nat)(L:List Nat)(b:Nat)(k:Nat→Bool):Bool:=match ixN n0 L b with
 |some b=>eF b k
 |none=>false
def mA{α:Type}(x:Option α)(k:α→Bool):Bool:=match x with
 |some x=>k x
 |none=>false
theorem pE(n0:Nat)(L:List Nat)(b:Nat)(k:Nat→Bool):ixK n0 L b k=mA (ixN n0 L b) k:=by
 unfold ixK mA
 cases ixN n0 L b with
 |none=>rfl
 |some b=>exact cF _ _
def capK(n0:Nat)(L:List Nat)(c:df)(k:df→Bool):Bool:=match c with
 | .lit c=>eF c fun c=>k (.lit c)
 | .sub b d=>ixK n0 L b fun b=>eF d fun d=>k (.sub b d)
theorem capK_eq(n0:Nat)(L:List Nat)(c:df)(k:df→Bool):capK n0 L c k=mA (tH n0 L c) k:=by
 cases c with
 |lit c=>simp only [capK,cF,tH,mA]
 |sub b d=>
  simp only [capK,pE,cF,tH]
  cases ixN n0 L b<;>rfl
mutual
def ie(n0:Nat)(L:List Nat):SV→(SV→Bool)→Bool
 | .v x,k=>k (.v x)
 | .str l,k=>k (.str l)
 | .ptr b o,k=>ixK n0 L b fun b=>eF o fun o=>k (.ptr b o)
 | .slc b o l c,k=>ixK n0 L b fun b=>capK n0 L c fun c=>eF o fun o=>eF l fun l=>k (.slc b o l c)
 | .mp b,k=>ixK n0 L b fun b=>k (.mp b)
 | .agg cs,k=>ke n0 L cs fun cs=>k (.agg cs)
 | .tup cs,k=>ke n0 L cs fun cs=>k (.tup cs)
 | .ifc t x,k=>eF t fun t=>ie n0 L x fun x=>k (.ifc t x)
 | .fn f cs,k=>eF f fun f=>ke n0 L cs fun cs=>k (.fn f cs)
def ke(n0:Nat)(L:List Nat):List SV→(List SV→Bool)→Bool
 | [],k=>k []
 |x::xs,k=>ie n0 L x fun x=>ke n0 L xs fun xs=>k (x::xs)
end
mutual
theorem kT(n0:Nat)(L:List Nat):∀(x:SV) (k:SV→Bool),ie n0 L x k=mA (eu n0 L x) k
 | .v x,k=>by simp only [ie,eu,mA]
 | .str l,k=>by simp only [ie,eu,mA]
 | .ptr b o,k=>by simp only [ie,pE,cF,eu];cases ixN n0 L b<;>rfl
 | .slc b o l c,k=>by simp only [ie,pE,capK_eq,cF,eu];cases ixN n0 L b<;>cases tH n0 L c<;>rfl
 | .mp b,k=>by simp only [ie,pE,eu];cases ixN n0 L b<;>rfl
 | .agg cs,k=>by rw [ie,jx n0 L cs];simp only [eu];cases gk n0 L cs<;>rfl
 | .tup cs,k=>by rw [ie,jx n0 L cs];simp only [eu];cases gk n0 L cs<;>rfl
 | .ifc t x,k=>by rw [ie,cF,kT n0 L x];simp only [eu];cases eu n0 L x<;>rfl
 | .fn f cs,k=>by rw [ie,cF,jx n0 L cs];simp only [eu];cases gk n0 L cs<;>rfl
theorem jx(n0:Nat)(L:List Nat):∀(l:List SV) (k:List SV→Bool),ke n0 L l k=mA (gk n0 L l) k
 | [],k=>by simp only [ke,gk,mA]
 |x::xs,k=>by
  rw [ke,kT n0 L x];simp only [gk]
  cases eu n0 L x with
  |none=>rfl
  |some y=>
   show ke n0 L xs _=_
   rw [jx n0 L xs]
   cases gk n0 L xs<;>rfl
end
def vB(n0:Nat)(L:List Nat):List (SV×SV×Nat)→(List (SV×SV×Nat)→Bool)→Bool
 | [],k=>k []
 |e::es,k=>ie n0 L e.1 fun a=>ie n0 L e.2.1 fun b=>eF e.2.2 fun c=>vB n0 L es fun es=>k ((a,b,c)::es)
theorem CM(n0:Nat)(L:List Nat):∀(l:List (SV×SV×Nat)) (k:List (SV×SV×Nat)→Bool),vB n0 L l k=mA (nH n0 L l) k:=by
 intro l
 induction l with
 |nil=>intro k;rfl
 |cons e es ih=>
  intro k;simp only [vB,nH,kT,cF,ih]
  cases eu n0 L e.1 with
  |none=>rfl
  |some a=>cases eu n0 L e.2.1 with
   |none=>rfl
   |some b=>cases nH n0 L es<;>rfl
def um(n0:Nat)(L:List Nat)(B:bS)(k:bS→Bool):Bool:=match B with
 | .cells cs es τ=>ke n0 L cs fun cs=>eF es fun es=>eF τ fun τ=>k (.cells cs es τ)
 | .map es clock=>vB n0 L es fun es=>eF clock fun clock=>k (.map es clock)
 | .siter s pos=>wP s fun s=>eF pos fun pos=>k (.siter s pos)
 | .miter m since seen last=>ixK n0 L m fun m=>eF since fun since=>rY seen fun seen=>eF last fun last=>k (.miter m since seen last)
theorem EW(n0:Nat)(L:List Nat)(B:bS)(k:bS→Bool):um n0 L B k=mA (kI n0 L B) k:=by
 cases B with
 |cells cs es τ=>simp only [um,jx,cF,kI];cases gk n0 L cs<;>rfl
 |map es clock=>simp only [um,CM,cF,kI];cases nH n0 L es<;>rfl
 |siter s pos=>simp only [um,uU,cF,kI,mA]
 |miter m since seen last=>simp only [um,pE,cF,ll,kI];cases ixN n0 L m<;>rfl
def Gv(n0:Nat)(c:df):Bool:=match c with
 | .lit _=>true
 | .sub b _=>Nat.blt b n0
def nq(n0:Nat)(x:SV):Bool:=match x with
 | .v _=>true
 | .str _=>true
 | .ptr b _=>Nat.blt b n0
 | .slc b _ _ c=>bif Nat.blt b n0 then Gv n0 c else false
 | .mp b=>Nat.blt b n0
 |_=>false
def AB(n0:Nat)(l:List SV):Bool:=List.rec (motive:=fun _=>Bool) true (fun x _ ih=>bif nq n0 x then ih else false) l
def wL(n0:Nat)(B:bS):Bool:=match B with
 | .cells cs _ _=>AB n0 cs
 |_=>false
theorem om{n0 b:Nat}(L:List Nat)(h:Nat.blt b n0=true):ixN n0 L b=some b:=by unfold ixN;rw [h];rfl
theorem Az{n0:Nat}(L:List Nat){x:SV}(h:nq n0 x=true):eu n0 L x=some x:=by
 cases x with
 |v x=>rfl
 |str l=>rfl
 |ptr b o=>simp only [nq]at h;simp only [eu,om L h]
 |slc b o l c=>
  simp only [nq]at h
  cases hb:Nat.blt b n0 with
  |false=>rw [hb]at h;exact absurd h Bool.false_ne_true
  |true=>
   rw [hb]at h;simp only [cond_true]at h
   cases c with
   |lit c=>simp only [eu,om L hb,tH]
   |sub b' d=>simp only [Gv]at h;simp only [eu,om L hb,tH,om L h]
 |mp b=>simp only [nq]at h;simp only [eu,om L h]
 |_=>exact absurd h Bool.false_ne_true
theorem AA{n0:Nat}(L:List Nat):∀ {l:List SV},AB n0 l=true→gk n0 L l=some l:=by
 intro l
 induction l with
 |nil=>intro _;rfl
 |cons x l ih=>
  intro h;have h:(bif nq n0 x then AB n0 l else false)=true:=h
  cases hx:nq n0 x with
  |false=>rw [hx]at h;exact absurd h Bool.false_ne_true
  |true=>
   rw [hx]at h;simp only [gk,Az L hx,ih h]
theorem AD{n0:Nat}(L:List Nat){B:bS}(h:wL n0 B=true):kI n0 L B=some B:=by
 cases B with
 |cells cs es τ=>simp only [wL]at h;simp only [kI,AA L h]
 |_=>exact absurd h Bool.false_ne_true
def putK(n0:Nat)(L:List Nat)(B:bS)(k:bS→Bool):Bool:=bif wL n0 B then k B else um n0 L B k
theorem putK_eq(n0:Nat)(L:List Nat)(B:bS)(k:bS→Bool):putK n0 L B k=mA (kI n0 L B) k:=by
 unfold putK
 cases h:wL n0 B with
 |true=>rw [AD L h];rfl
 |false=>exact EW n0 L B k
def rB(n0:Nat)(L:List Nat)(H:T bS):List Nat→T bS→(T bS→Bool)→Bool
 | [],acc,k=>k acc
 |b::bs,acc,k=>match H.get b with
  |none=>rB n0 L H bs acc k
  |some B=>ixK n0 L b fun i=>putK n0 L B fun B'=>tC 32 acc i B' fun acc=>rB n0 L H bs acc k
theorem xG(n0:Nat)(L:List Nat)(H:T bS):∀(bs:List Nat) (acc:T bS) (k:T bS→Bool),rB n0 L H bs acc k=mA (vA n0 L H bs acc) k:=by
 intro bs
 induction bs with
 |nil=>intro acc k;rfl
 |cons b bs ih=>
  intro acc k;simp only [rB,vA,pE,putK_eq,qJ,ih]
  cases H.get b with
  |none=>rfl
  |some B=>cases ixN n0 L b with
   |none=>rfl
   |some i=>cases hB:kI n0 L B with
    |none=>simp only [mA,hB]
    |some B'=>simp only [mA,hB];rfl
def Eg(n0 b:Nat)(L:List Nat):List Nat:=bif Nat.blt b n0 then L else bif Fw b L then L else L++ [b]
def idsC(n0:Nat)(c:df)(L:List Nat):List Nat:=match c with
 | .lit _=>L
 | .sub b _=>Eg n0 b L
mutual
def wz(n0:Nat):SV→List Nat→List Nat
 | .v _,L=>L
 | .str _,L=>L
 | .ptr b _,L=>Eg n0 b L
 | .slc b _ _ c,L=>idsC n0 c (Eg n0 b L)
 | .mp b,L=>Eg n0 b L
 | .agg cs,L=>BN n0 cs L
 | .tup cs,L=>BN n0 cs L
 | .ifc _ x,L=>wz n0 x L
 | .fn _ cs,L=>BN n0 cs L
def BN(n0:Nat):List SV→List Nat→List Nat
 | [],L=>L
 |x::xs,L=>BN n0 xs (wz n0 x L)
end
def idsV1(n0:Nat)(x:SV)(L:List Nat):List Nat:=match x with
 | .v _=>L
 | .str _=>L
 | .ptr b _=>Eg n0 b L
 |x=>wz n0 x L
def idsL(n0:Nat)(l:List SV):List Nat→List Nat:=List.rec (motive:=fun _=>List Nat→List Nat) (fun L=>L) (fun x _ ih L=>ih (idsV1 n0 x L)) l
def idsE(n0:Nat):List (SV×SV×Nat)→List Nat→List Nat
 | [],L=>L
 |e::es,L=>idsE n0 es (wz n0 e.2.1 (wz n0 e.1 L))
def idsB(n0:Nat)(B:bS)(L:List Nat):List Nat:=match B with
 | .cells cs _ _=>idsL n0 cs L
 | .map es _=>idsE n0 es L
 | .siter _ _=>L
 | .miter m _ _ _=>Eg n0 m L
def DI(n0:Nat)(H:T bS):List Nat→List Nat→List Nat
 | [],L=>L
 |b::bs,L=>match H.get b with
  |none=>DI n0 H bs L
  |some B=>DI n0 H bs (idsB n0 B L)
def nn(n0:Nat)(H:T bS):Nat→Nat→List Nat→List Nat
 |0,_,L=>L
 |f+1,p,L=>match nth L p with
  |none=>L
  |some b=>match H.get b with
   |none=>nn n0 H f (Nat.succ p) L
   |some B=>nn n0 H f (Nat.succ p) (idsB n0 B L)
def upN(n:Nat):List Nat:=Nat.rec (motive:=fun _=>List Nat) [] (fun m ih=>m::ih) n
def zT(b:Bool):Bool:=bif b then true else false
theorem vV(b:Bool):zT b=b:=by cases b<;>rfl
def memK(M:Mem)(k:Mem→Bool):Bool:=match M with
 |⟨blk,os,out,tape,gl,glok,X⟩=>k ⟨blk,os,out,tape,gl,glok,X⟩
theorem vW(M:Mem)(k:Mem→Bool):memK M k=k M:=by cases M;rfl
def AH(n1:Nat)(v:SV)(h:HS)(K:SV→HS→Bool):Bool:=
 eF n1 fun n0=>memK h.M fun M=>rY (nn n0 h.H h.nx 0 (DI n0 h.H (upN n0) (wz n0 v []))) fun L=>
  ie n0 L v fun v'=>rB n0 L h.H (upN n0++L) .e fun H'=>eF (n0+L.length) fun nx=>zT (K v' ⟨H',nx,M⟩)
theorem yY{ρ0 ρ:Nat→Loc}{h0 h:HS}{v:SV}{K:SV→HS→Bool}{w':World}(hk:AH h0.nx v h K=true)(hv:v.lt ρ h.nx)(R:ba ρ h w')(hx:Ext ρ0 ρ h0.nx)(hm:h0.M.le h.M):
  dT ρ0 h0 K (v.den ρ) w':=by
 unfold AH at hk;rw [cF,vW,ll]at hk;generalize nn h0.nx h.H h.nx 0 (DI h0.nx h.H (upN h0.nx) (wz h0.nx v []))=L at hk;rw [kT]at hk
 cases hr:eu h0.nx L v with
 |none=>rw [hr]at hk;exact absurd hk Bool.false_ne_true
 |some v'=>
  rw [hr]at hk;have hk:rB h0.nx L h.H (upN h0.nx++L) .e (fun H'=>eF (h0.nx+L.length) fun nx=>zT (K v' ⟨H',nx,h.M⟩))=true:=hk;rw [xG]at hk
  cases hh:vA h0.nx L h.H (upN h0.nx++L) .e with
  |none=>rw [hh]at hk;exact absurd hk Bool.false_ne_true
  |some H'=>
   rw [hh]at hk;have hk:(eF (h0.nx+L.length) fun nx=>zT (K v' ⟨H',nx,h.M⟩))=true:=hk;rw [cF,vV]at hk;have hH:=uk _ _ _ hh (fun k B' hg=>by rw [T.eE]at hg;cases hg);obtain⟨d1,d2⟩:=jy (ρ:=ρ) v v' hr hv;refine⟨v',⟨H',h0.nx+L.length,h.M⟩,fun k=>ρ (dV h0.nx L k),hk,d1.symm,d2,R.ren hH,fun b hb=> ?_,Nat.le_add_right _ _,hm⟩;show ρ (dV h0.nx L b)=ρ0 b
   unfold dV;rw [if_pos hb];exact hx b hb
def yf(tm:T SV):List Nat→T SV→List Nat→(T SV→List Nat→Bool)→Bool
 | [],acc,L,k=>k acc L
 |i::is,acc,L,k=>match tm.get i with
  |none=>yf tm is acc L k
  |some x=>tC 32 acc i x fun acc=>yf tm is acc (wz 0 x L) k
theorem Dz{tm:T SV} :∀ {is:List Nat} {acc:T SV} {L:List Nat} {k:T SV→List Nat→Bool},yf tm is acc L k=true→(∀i x,acc.get i=some x→tm.get i=some x)→
  ∃acc' L',k acc' L'=true∧∀i x,acc'.get i=some x→tm.get i=some x:=by
 intro is
 induction is with
 |nil=>intro acc L k h hs;exact⟨acc,L,h,hs⟩
 |cons i is ih=>
  intro acc L k h hs;simp only [yf]at h
  split at h
  ·exact ih h hs
  ·rename_i x hx
   rw [qJ]at h;refine ih h fun j y hj=> ?_
   rcases T.cI hj with⟨rfl,rfl⟩|⟨_,hj⟩
   ·exact hx
   ·exact hs j y hj
def yr(H:T bS):List Nat→T bS→(T bS→Bool)→Bool
 | [],acc,k=>k acc
 |b::bs,acc,k=>match H.get b with
  |none=>yr H bs acc k
  |some B=>tC 32 acc b B fun acc=>yr H bs acc k
theorem DC{H:T bS} :∀ {bs:List Nat} {acc:T bS} {k:T bS→Bool},yr H bs acc k=true→(∀b B,acc.get b=some B→H.get b=some B)→
  ∃acc',k acc'=true∧∀b B,acc'.get b=some B→H.get b=some B:=by
 intro bs
 induction bs with
 |nil=>intro acc k h hs;exact⟨acc,h,hs⟩
 |cons b bs ih=>
  intro acc k h hs;simp only [yr]at h
  split at h
  ·exact ih h hs
  ·rename_i B hB
   rw [qJ]at h;refine ih h fun j y hj=> ?_
   rcases T.cI hj with⟨rfl,rfl⟩|⟨_,hj⟩
   ·exact hB
   ·exact hs j y hj
def gcK(live:List Nat)(tm:T SV)(h:HS)(F:T SV→HS→Bool):Bool:=
 yf tm live .e [] fun tm L=>rY (nn 0 h.H h.nx 0 L) fun L=>yr h.H L .e fun H=>eF h.nx fun nx=>memK h.M fun M=>zT (F tm ⟨H,nx,M⟩)
theorem BP{live:List Nat}{tm:T SV}{h:HS}{F:T SV→HS→Bool}(hk:gcK live tm h F=true):
  ∃tm' H',F tm' ⟨H',h.nx,h.M⟩=true∧(∀i x,tm'.get i=some x→tm.get i=some x)∧∀b B,H'.get b=some B→h.H.get b=some B:=by
 unfold gcK at hk;obtain⟨tm',L,hk,h1⟩:=Dz hk (fun i x h=>by rw [T.eE]at h;cases h);rw [ll]at hk;obtain⟨H',hk,h2⟩:=DC hk (fun i x h=>by rw [T.eE]at h;cases h);rw [cF,vW,vV]at hk;exact⟨tm',H',hk,h1,h2⟩
theorem ba.less{ρ:Nat→Loc}{h:HS}{w:World}(R:ba ρ h w){H':T bS}(hs:∀b B,H'.get b=some B→h.H.get b=some B):ba ρ ⟨H',h.nx,h.M⟩ w:=
 ⟨R.os,R.out,R.tape,R.mem,fun b B hb=>R.blk b B (hs b B hb),fun b b' B B' hb hb' he=>R.inj b b' B B' (hs b B hb) (hs b' B' hb') he,fun b B hb=>R.apart b B (hs b B hb),R.are,fun b B hb=>R.aprA b B (hs b B hb),R.disj⟩
def qI(n0:Nat)(tm:T SV):List Nat→List Nat→List Nat
 | [],L=>L
 |i::is,L=>match tm.get i with
  |none=>qI n0 tm is L
  |some x=>qI n0 tm is (wz n0 x L)
def uj(n0:Nat)(L:List Nat)(tm:T SV):List Nat→T SV→(T SV→Bool)→Bool
 | [],acc,k=>k acc
 |i::is,acc,k=>match tm.get i with
  |none=>uj n0 L tm is acc k
  |some x=>ie n0 L x fun x'=>tC 32 acc i x' fun acc=>uj n0 L tm is acc k
theorem zB{n0:Nat}{L:List Nat}{tm:T SV} :∀ {is:List Nat} {acc:T SV} {k:T SV→Bool},uj n0 L tm is acc k=true→
  (∀j y,acc.get j=some y→∃x,tm.get j=some x∧eu n0 L x=some y)→∃acc',k acc'=true∧∀j y,acc'.get j=some y→∃x,tm.get j=some x∧eu n0 L x=some y:=by
 intro is
 induction is with
 |nil=>intro acc k h hs;exact⟨acc,h,hs⟩
 |cons i is ih=>
  intro acc k h hs;simp only [uj]at h
  split at h
  ·exact ih h hs
  ·rename_i x hx
   rw [kT]at h
   cases hr:eu n0 L x with
   |none=>rw [hr]at h;exact absurd h Bool.false_ne_true
   |some x'=>
    rw [hr]at h;have h:tC 32 acc i x' (fun acc=>uj n0 L tm is acc k)=true:=h;rw [qJ]at h;refine ih h fun j y hj=> ?_
    rcases T.cI hj with⟨rfl,rfl⟩|⟨_,hj⟩
    ·exact⟨x,hx,hr⟩
    ·exact hs j y hj
def AF(n1 sz:Nat)(tm:T SV)(h:HS)(F:T SV→HS→Bool):Bool:=
 eF n1 fun n0=>memK h.M fun M=>rY (nn n0 h.H h.nx 0 (qI n0 tm (upN sz) (DI n0 h.H (upN n0) []))) fun L=>
  uj n0 L tm (upN sz) .e fun tm'=>rB n0 L h.H (upN n0++L) .e fun H'=>eF (n0+L.length) fun nx=>zT (F tm' ⟨H',nx,M⟩)
theorem yX{ρ0 ρ:Nat→Loc}{h0 h:HS}{sz:Nat}{tm:T SV}{F:T SV→HS→Bool}{a:Act}{w':World}(hk:AF h0.nx sz tm h F=true)(A:dR dfs ρ tm sz h.nx a)(R:ba ρ h w')(hx:Ext ρ0 ρ h0.nx)(hm:h0.M.le h.M):
  oH dfs ρ0 h0 sz F a w':=by
 unfold AF at hk;rw [cF,vW,ll]at hk;generalize nn h0.nx h.H h.nx 0 (qI h0.nx tm (upN sz) (DI h0.nx h.H (upN h0.nx) []))=L at hk;obtain⟨tm',hk,htm⟩:=zB hk (fun j y h=>by rw [T.eE]at h;cases h);rw [xG]at hk
 cases hh:vA h0.nx L h.H (upN h0.nx++L) .e with
 |none=>rw [hh]at hk;exact absurd hk Bool.false_ne_true
 |some H'=>
  rw [hh]at hk;have hk:(eF (h0.nx+L.length) fun nx=>zT (F tm' ⟨H',nx,h.M⟩))=true:=hk;rw [cF,vV]at hk;have hH:=uk _ _ _ hh (fun k B' hg=>by rw [T.eE]at hg;cases hg);refine⟨tm',⟨H',h0.nx+L.length,h.M⟩,fun k=>ρ (dV h0.nx L k),hk,⟨A.size,fun i y hi=> ?_,A.defers⟩,R.ren hH,fun b hb=> ?_,Nat.le_add_right _ _,hm⟩
  ·obtain⟨x,hx',hr⟩:=htm i y hi
   obtain⟨l1,l2⟩:=A.at_ i x hx';obtain⟨d1,d2⟩:=jy (ρ:=ρ) x y hr l1;exact⟨d2,by rw [l2,d1]⟩
  ·show ρ (dV h0.nx L b)=ρ0 b
   unfold dV;rw [if_pos hb];exact hx b hb
def vP:cW→Bool
 | .done=>true
 | .stop=>true
 | .take _ _ _ r=>vP r
 | .eff _ _ _ _ q a=>match a with
   | .stop=>vP q
   |_=>false
end
end Go.Sx
