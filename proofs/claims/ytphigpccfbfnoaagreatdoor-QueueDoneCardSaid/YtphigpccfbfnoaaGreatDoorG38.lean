/-
  Parts of the proof: RpA TrS TrT TrV RpB RpC RkI RkIg ApJ
-/
import Derived.Test.YtphigpccfbfnoaaGreatDoorG37
import Derived.Test.YtphigpccfbfnoaaGreatDoorG17
import Derived.Test.YtphigpccfbfnoaaGreatDoorG31
set_option maxRecDepth 100000
set_option maxHeartbeats 0
namespace Go.Proofs.YtphigpccfbfnoaaGreatDoor
open Go.Sx Go.RowKit
noncomputable section
open Classical
theorem EM(a:List UInt8):ltL a a=false:=by
 cases h:ltL a a with
 |false=>rfl
 |true=>exact absurd ((nX a a).1 h) (List.lt_irrefl a)
theorem EL{a b c:List UInt8}(h1:ltL a b=true)(h2:ltL b c=true):ltL a c=true:=
 (nX a c).2 (List.lt_trans ((nX a b).1 h1) ((nX b c).1 h2))
section
variable {α:Type}
theorem Bf(f:α→Bool):∀M:List α,M.take (M.takeWhile f).length=M.takeWhile f
 | []=>rfl
 |x::M=>by
  cases h:f x with
  |true=>rw [List.takeWhile_cons,if_pos h,List.length_cons,List.take_succ_cons,Bf f M]
  |false=>rw [List.takeWhile_cons,if_neg (by simp [h])];rfl
theorem BZ(f:α→Bool):∀M:List α,M.drop (M.takeWhile f).length=M.dropWhile f
 | []=>rfl
 |x::M=>by
  cases h:f x with
  |true=>rw [List.takeWhile_cons,if_pos h,List.length_cons,List.drop_succ_cons,BZ f M,List.dropWhile_cons,if_pos h]
  |false=>rw [List.takeWhile_cons,if_neg (by simp [h]),List.dropWhile_cons,if_neg (by simp [h])];rfl
theorem Er(f:α→Bool):∀M:List α,∀x∈M.takeWhile f,f x=true
 | [],x,hx=>by simp at hx
 |y::M,x,hx=>by
  cases h:f y with
  |true=>
   rw [List.takeWhile_cons,if_pos h]at hx;rcases List.mem_cons.1 hx with rfl|hx
   ·exact h
   ·exact Er f M x hx
  |false=>rw [List.takeWhile_cons,if_neg (by simp [h])]at hx;simp at hx
theorem Gh{R:α→α→Prop}(ht:∀a b c,R a b→R b c→R a c){f:α→Bool}{n:α} :∀M:List α,M.Pairwise R→(∀x∈M,f x=false→R n x)→∀x∈M.dropWhile f,R n x
 | [],_,_,x,hx=>by simp at hx
 |y::M,hp,hn,x,hx=>by
  rw [List.pairwise_cons]at hp
  cases h:f y with
  |true=>
   rw [List.dropWhile_cons,if_pos h]at hx;exact Gh ht M hp.2 (fun z hz=>hn z (List.mem_cons_of_mem _ hz)) x hx
  |false=>
   rw [List.dropWhile_cons,if_neg (by simp [h])]at hx;have hy:=hn y (by simp) h;rcases List.mem_cons.1 hx with rfl|hx
   ·exact hy
   ·exact ht _ _ _ hy (hp.1 x hx)
theorem yA{R:α→α→Prop}(ht:∀a b c,R a b→R b c→R a c){f:α→Bool}{n:α}{M:List α}(hp:M.Pairwise R)(h1:∀x∈M,f x=true→R x n)(h2:∀x∈M,f x=false→R n x):(M.take (M.takeWhile f).length++n::M.drop (M.takeWhile f).length).Pairwise R:=by
 rw [Bf,BZ];have hM:=List.takeWhile_append_dropWhile (p:=f) (l:=M);rw [←hM,List.pairwise_append]at hp;have hA:∀x∈M.takeWhile f,R x n:=fun x hx=>h1 x (by rw [←hM];exact List.mem_append_left _ hx) (Er f M x hx)
 have hp0:M.Pairwise R:=by rw [←hM,List.pairwise_append];exact hp
 have hB:=Gh ht M hp0 h2;rw [List.pairwise_append,List.pairwise_cons];refine⟨hp.1,⟨hB,hp.2.1⟩,fun a ha b hb=> ?_⟩;rcases List.mem_cons.1 hb with rfl|hb
 ·exact hA a ha
 ·exact hp.2.2 a ha b hb
theorem yB(n x:α)(q:Nat)(M:List α):x∈M.take q++n::M.drop q↔x=n∨x∈M:=by
 conv=>rhs;rw [←List.take_append_drop q M]
 simp only [List.mem_append,List.mem_cons];constructor
 ·rintro(h|h|h)
  ·exact .inr (.inl h)
  ·exact .inl h
  ·exact .inr (.inr h)
 ·rintro(h|h|h)
  ·exact .inr (.inl h)
  ·exact .inl h
  ·exact .inr (.inr h)
theorem Bh{M:List α}{k:Nat}(hk:k<M.length):M=M.take k++M[k]::M.drop (k+1):=by
 rw [←List.drop_eq_getElem_cons hk,List.take_append_drop]
theorem Cz{M:List α}{k:Nat}(hk:k<M.length)(y:α):M.set k y=M.take k++y::M.drop (k+1):=by
 rw [List.set_eq_take_append_cons_drop,if_pos hk]
end
abbrev ltN(a b:aC):Prop:=ltL (eC a.path) (eC b.path)=true
def Asc(N:List aC):Prop:=N.Pairwise ltN
def oF(N:List aC)(F:ByteArray→Option bn):Prop:=∀x:aC,x∈N↔F x.path=some ⟨x.data,x.stat⟩
theorem Dt:∀a b c:aC,ltN a b→ltN b c→ltN a c:=fun _ _ _ h1 h2=>EL h1 h2
theorem FF{a b:aC}(h:ltN a b):a.path≠b.path:=fun e=>by
 have h:ltL (eC a.path) (eC b.path)=true:=h;rw [e,EM]at h;cases h
theorem lD(N:List aC)(p:ByteArray):(cM N p<0∧∀x∈N,x.path≠p)∨∃k:Nat,∃hk:k<N.length,cM N p=(k:Nat)∧N[k].path=p:=by
 unfold cM
 cases hf:N.findIdx? fun x=>decide (x.path=p)with
 |none=>
  refine .inl ⟨by show(-1:Int)<0;omega,fun x hx=> ?_⟩;rw [List.findIdx?_eq_none_iff]at hf;simpa using hf x hx
 |some i=>
  rw [List.findIdx?_eq_some_iff_getElem]at hf;obtain⟨h1,h2,_⟩:=hf;exact .inr ⟨i,h1,rfl,by simpa using h2⟩
theorem wK{N:List aC}(hA:Asc N){k:Nat}(hk:k<N.length)(x:aC):x∈N.take k++N.drop (k+1)↔x∈N∧x.path≠N[k].path:=by
 have hs:=Bh hk;have hp:Asc N:=hA;unfold Asc at hp;rw [hs,List.pairwise_append,List.pairwise_cons]at hp;have hm:x∈N↔x∈N.take k++N[k]::N.drop (k+1):=by rw [←hs]
 rw [hm];simp only [List.mem_append,List.mem_cons];constructor
 ·rintro(h|h)
  ·exact⟨.inl h,FF (hp.2.2 x h _ (List.mem_cons.2 (.inl rfl)))⟩
  ·exact⟨.inr (.inr h),fun e=>FF (hp.2.1.1 x h) e.symm⟩
 ·rintro⟨h|h|h,hne⟩
  ·exact .inl h
  ·exact absurd (by rw [h]) hne
  ·exact .inr h
theorem td{N:List aC}(hA:Asc N)(p:ByteArray)(x:aC):x∈dh N p↔x∈N∧x.path≠p:=by
 unfold dh;rcases lD N p with⟨h1,h2⟩|⟨k,hk,h1,h2⟩
 ·rw [if_pos h1]
  exact⟨fun h=>⟨h,h2 x h⟩,fun h=>h.1⟩
 ·rw [h1,if_neg (by omega),Int.toNat_natCast,wK hA hk,h2]
theorem yM{N:List aC}(hA:Asc N)(p:ByteArray):Asc (dh N p):=by
 unfold dh
 split
 ·exact hA
 ·refine List.Pairwise.sublist ?_ hA
  conv=>rhs;rw [←List.take_append_drop (cM N p).toNat N]
  refine List.Sublist.append (List.Sublist.refl _) ?_;rw [←List.drop_drop];exact List.drop_sublist _ _
theorem put_mem{N:List aC}(hA:Asc N)(n x:aC):x∈cA N n↔x=n∨(x∈N∧x.path≠n.path):=by
 unfold cA;rw [yB,td hA]
theorem put_asc{N:List aC}(hA:Asc N)(n:aC):Asc (cA N n):=by
 unfold cA mU;refine yA Dt (yM hA n.path) (fun x _ h=>h) fun x hx h=> ?_
 have h2:=((td hA n.path x).1 hx).2;show ltL (eC n.path) (eC x.path)=true
 cases h3:ltL (eC n.path) (eC x.path)with
 |true=>rfl
 |false=>exact absurd (Da (BB h h3)) h2
def xX(N:List aC)(p:ByteArray)(f:aC→aC):List aC:=if cM N p<0 then N else match N[(cM N p).toNat]? with
 |some x=>N.set (cM N p).toNat (f x)
 |none=>N
theorem r6(N:List aC)(p:ByteArray)(z cv:Int):fj N p z cv=xX N (aR p) (Fy z cv):=rfl
theorem set_mod(N:List aC)(h:bJ)(z time:Int):qd N h z time=xX N h.path (setX h z time):=rfl
theorem pq{N:List aC}{p:ByteArray}{f:aC→aC}(hf:∀x,(f x).path=x.path):(xX N p f).map (·.path)=N.map (·.path):=by
 unfold xX;rcases lD N p with⟨h1,h2⟩|⟨k,hk,h1,h2⟩
 ·rw [if_pos h1]
 ·rw [h1,if_neg (by omega),Int.toNat_natCast,List.getElem?_eq_getElem hk]
  show(N.set k (f N[k])).map (·.path)=_
  rw [List.map_set,hf];have:(N.map (·.path))[k]'(by rw [List.length_map];exact hk)=N[k].path:=List.getElem_map _;rw [←this,List.set_getElem_self]
theorem pV{N:List aC} :Asc N↔(N.map (·.path)).Pairwise fun a b=>ltL (eC a) (eC b)=true:=by
 rw [List.pairwise_map];rfl
theorem vU{N:List aC}(hA:Asc N)(p:ByteArray){f:aC→aC}(hf:∀x,(f x).path=x.path):Asc (xX N p f):=by
 rw [pV,pq hf,←pV];exact hA
theorem mod_mem{N:List aC}(hA:Asc N)(p:ByteArray)(f:aC→aC)(x:aC):x∈xX N p f↔(x∈N∧x.path≠p)∨∃y∈N,y.path=p∧x=f y:=by
 unfold xX;rcases lD N p with⟨h1,h2⟩|⟨k,hk,h1,h2⟩
 ·rw [if_pos h1]
  exact⟨fun h=> .inl ⟨h,h2 x h⟩,fun h=>h.elim (·.1) fun⟨y,hy,h3,_⟩=>absurd h3 (h2 y hy)⟩
 ·rw [h1,if_neg (by omega),Int.toNat_natCast,List.getElem?_eq_getElem hk]
  show x∈N.set k (f N[k])↔_
  rw [Cz hk,←h2,←wK hA hk];simp only [List.mem_append,List.mem_cons]
  have huniq:∀y∈N,y.path=N[k].path→y=N[k]:=fun y hy hp=>by
   rcases Classical.em (y=N[k])with h|h
   ·exact h
   ·have this:¬y∈N.take k++N.drop (k+1):=fun h=>((wK hA hk y).1 h).2 hp
    have hm:y∈N.take k++N[k]::N.drop (k+1):=by rw [←Bh hk];exact hy
    simp only [List.mem_append,List.mem_cons]at hm this;rcases hm with hm|hm|hm
    ·exact absurd (.inl hm) this
    ·exact absurd hm h
    ·exact absurd (.inr hm) this
  constructor
  ·rintro(h|h|h)
   ·exact .inl (.inl h)
   ·exact .inr ⟨N[k],List.getElem_mem hk,rfl,h⟩
   ·exact .inl (.inr h)
  ·rintro((h|h)|⟨y,hy,hp,h⟩)
   ·exact .inl h
   ·exact .inr (.inr h)
   ·rw [huniq y hy hp]at h
    exact .inr (.inl h)
theorem x5{N:List aC}{F:ByteArray→Option bn}(hA:Asc N)(hM:oF N F)(p:ByteArray){f:aC→aC}{f':bn→bn}(hf:∀x,f x=⟨x.path,(f' ⟨x.data,x.stat⟩).data,(f' ⟨x.data,x.stat⟩).stat⟩):oF (xX N p f) fun q=>if q=p then(F q).map f' else F q:=fun x=>by
 rw [mod_mem hA];dsimp only
 by_cases e:x.path=p
 ·rw [if_pos e]
  constructor
  ·rintro(⟨_,h⟩|⟨y,hy,hp,rfl⟩)
   ·exact absurd e h
   ·have h1:=(hM y).1 hy
    have h2:(f y).path=y.path:=by rw [hf]
    rw [h2,h1,hf];rfl
  ·intro h
   obtain⟨n,h1,h2⟩:=Option.map_eq_some_iff.1 h;refine .inr ⟨⟨x.path,n.data,n.stat⟩,(hM _).2 h1,e,?_⟩;rw [hf];show x=⟨x.path,(f' n).data,(f' n).stat⟩
   rw [h2]
 ·rw [if_neg e,←hM x]
  exact⟨fun h=>h.elim (·.1) fun⟨y,hy,hp,h⟩=>absurd (by rw [h,hf];exact hp) e,fun h=> .inl ⟨h,e⟩⟩
theorem Fv{N:List aC}{F:ByteArray→Option bn}(hA:Asc N)(hM:oF N F)(p:ByteArray)(n:bn):oF (cA N ⟨p,n.data,n.stat⟩) fun q=>if q=p then some n else F q:=fun x=>by
 rw [put_mem hA];dsimp only
 by_cases e:x.path=p
 ·rw [if_pos e]
  constructor
  ·rintro(rfl|h)
   ·rfl
   ·exact absurd e h.2
  ·intro h
   injection h with h
   refine .inl ?_;rw [h];show x=⟨p,x.data,x.stat⟩
   rw [←e]
 ·rw [if_neg e,←hM x]
  exact⟨fun h=>h.elim (fun h=>absurd (by rw [h]) e) (·.1),fun h=> .inr ⟨h,e⟩⟩
theorem Dm{N:List aC}{F:ByteArray→Option bn}(hA:Asc N)(hM:oF N F)(p:ByteArray):oF (dh N p) fun q=>if q=p then none else F q:=fun x=>by
 rw [td hA];dsimp only
 by_cases e:x.path=p
 ·rw [if_pos e]
  exact⟨fun h=>absurd e h.2,fun h=>by cases h⟩
 ·rw [if_neg e,←hM x]
  exact⟨(·.1),fun h=>⟨h,e⟩⟩
theorem uC{N:List aC}{F:ByteArray→Option bn}(hA:Asc N)(hM:oF N F)(h:bJ)(z:Int):oF (fj N h.path z h.cver) fun q=>mG h z q (F q):=by
 rw [r6];exact x5 hA hM (aR h.path) (f':=gN z h.cver) fun x=>rfl
theorem qf{N:List aC}{F:ByteArray→Option bn}(hA:Asc N)(hM:oF N F){h:bJ}(hk:h.kind=1∨h.kind=2∨h.kind=3)(z time:Int):Asc (bF N h z time)∧oF (bF N h z time) fun q=>oz h z time q (F q):=by
 rcases hk with k|k|k
 ·rw [nM k]
  have h1:=put_asc hA ⟨h.path,h.data,⟨z,z,z,time,time,0,0,h.owner,0,0⟩⟩;refine⟨by rw [r6];exact vU h1 _ fun _=>rfl,?_⟩;have h2:=uC h1 (Fv hA hM h.path (iT h z time)) h z
  have e:(fun q=>oz h z time q (F q))=fun q=>mG h z q (if q=h.path then some (iT h z time)else F q):=by
   funext q
   unfold oz;rw [if_neg (by omega),if_pos k]
  rw [e];exact h2
 ·rw [xJ k]
  have h1:=yM hA h.path;refine⟨by rw [r6];exact vU h1 _ fun _=>rfl,?_⟩;have h2:=uC h1 (Dm hA hM h.path) h z
  have e:(fun q=>oz h z time q (F q))=fun q=>mG h z q (if q=h.path then none else F q):=by
   funext q
   unfold oz;rw [if_neg (by omega),if_neg (by omega),if_pos k]
  rw [e];exact h2
 ·rw [kX k,set_mod]
  refine⟨vU hA _ fun _=>rfl,?_⟩;have h2:=x5 hA hM h.path (f:=setX h z time) (f':=kj h z time) fun x=>rfl
  have e:(fun q=>oz h z time q (F q))=fun q=>if q=h.path then(F q).map (kj h z time)else F q:=by
   funext q
   unfold oz;rw [if_pos k]
  rw [e];exact h2
def gI(N:List aC)(ps:List aB)(z time:Int):List aC:=ps.foldl (fun N p=>bF N p.h z time) N
theorem rv(z time:Int):∀(ps:List aB) {N:List aC} {F:ByteArray→Option bn},Asc N→oF N F→(∀p∈ps,p.h.kind=1∨p.h.kind=2∨p.h.kind=3)→Asc (gI N ps z time)∧oF (gI N ps z time) fun q=>rP ps z time q (F q)
 | [],_,_,hA,hM,_=>⟨hA,hM⟩
 |p::ps,N,F,hA,hM,hk=>by
  obtain⟨h1,h2⟩:=qf hA hM (hk p (by simp)) z time;exact rv z time ps h1 h2 fun x hx=>hk x (List.mem_cons_of_mem _ hx)
abbrev ltS(a b:bb):Prop:=a.ses<b.ses
def wZ(S:List bb):Prop:=S.Pairwise ltS
def wY(S:List bb)(G:Int→Option bb):Prop:=∀x:bb,x∈S↔G x.ses=some x
theorem rz(S:List bb)(s:Int)(x:bb):x∈gL S s↔x∈S∧x.ses≠s:=by
 unfold gL;rw [List.mem_filter,jF];simp
theorem xD{S:List bb}(hA:wZ S)(s:Int):wZ (gL S s):=List.Pairwise.sublist List.filter_sublist hA
theorem EA(S:List bb)(y x:bb):x∈jv S y↔x=y∨(x∈S∧x.ses≠y.ses):=by
 unfold jv;rw [yB,rz]
theorem EB{S:List bb}(hA:wZ S)(y:bb):wZ (jv S y):=by
 unfold jv vI;refine yA (fun a b c (h1:a.ses<b.ses) (h2:b.ses<c.ses)=>by show a.ses<c.ses;omega) (xD hA y.ses) (fun x _ h=>of_decide_eq_true h) fun x hx h=> ?_
 have h2:=((rz S y.ses x).1 hx).2;have h3:¬x.ses<y.ses:=of_decide_eq_false h;show y.ses<x.ses
 omega
theorem Dk{S:List bb}{G:Int→Option bb}(hM:wY S G)(s:Int):wY (gL S s) fun q=>if q=s then none else G q:=fun x=>by
 rw [rz];dsimp only
 by_cases e:x.ses=s
 ·rw [if_pos e]
  exact⟨fun h=>absurd e h.2,fun h=>by cases h⟩
 ·rw [if_neg e,←hM x]
  exact⟨(·.1),fun h=>⟨h,e⟩⟩
theorem Dj{S:List bb}{G:Int→Option bb}(hM:wY S G)(y:bb):wY (jv S y) fun q=>if q=y.ses then some y else G q:=fun x=>by
 rw [EA];dsimp only
 by_cases e:x.ses=y.ses
 ·rw [if_pos e]
  constructor
  ·rintro(rfl|h)
   ·rfl
   ·exact absurd e h.2
  ·intro h
   injection h with h
   exact .inl h.symm
 ·rw [if_neg e,←hM x]
  exact⟨fun h=>h.elim (fun h=>absurd (by rw [h]) e) (·.1),fun h=> .inr ⟨h,e⟩⟩
def aW(ses ah:Int)(x:bb):bb:=if 1≤ses∧x.ses=ses then⟨x.ses,x.tmo,max x.ah ah⟩else x
theorem jU(ses ah:Int)(x:bb):(aW ses ah x).ses=x.ses:=by
 unfold aW;split<;>rfl
theorem Ct{S:List bb}(hA:wZ S)(ses ah:Int):wZ (S.map (aW ses ah)):=by
 refine List.pairwise_map.2 (hA.imp fun {a b} h=> ?_);show(aW ses ah a).ses<(aW ses ah b).ses
 rw [jU,jU];exact h
theorem zW{S:List bb}{G:Int→Option bb}(hM:wY S G)(hG:∀s x,G s=some x→x.ses=s∧1≤s)(d:aB):wY (S.map (aW d.h.ses d.h.ah)) fun q=>mQ d q (G q):=fun x=>by
 rw [List.mem_map];dsimp only;unfold mQ
 by_cases e:x.ses=d.h.ses
 ·rw [if_pos e]
  constructor
  ·rintro⟨y,hy,rfl⟩
   rw [jU]at e ⊢;have h1:=(hM y).1 hy;have h2:=(hG _ _ h1).2;rw [h1];show some _=some _
   unfold aW;rw [if_pos ⟨by omega,e⟩]
  ·intro h
   obtain⟨y,h1,h2⟩:=Option.map_eq_some_iff.1 h;obtain⟨h3,h4⟩:=hG _ _ h1;refine⟨y,(hM y).2 (by rw [h3];exact h1),?_⟩;unfold aW;rw [if_pos ⟨by omega,by omega⟩];exact h2
 ·rw [if_neg e,←hM x]
  constructor
  ·rintro⟨y,hy,rfl⟩
   rw [jU]at e;have:aW d.h.ses d.h.ah y=y:=by unfold aW;rw [if_neg fun h=>e h.2]
   rw [this];exact hy
  ·intro h
   refine⟨x,h,?_⟩;unfold aW;rw [if_neg fun h=>e h.2]
def kR(S:List bb)(d:aB):List bb:=if d.h.kind=4 then jv S ⟨d.h.zxid,d.h.tmo,d.h.ah⟩else if d.h.kind=5 then gL S d.h.owner else S
def dN(N:List aC)(d:aB):List aC:=if cJ d then gI (bF N d.h d.h.zxid d.h.time) d.parts d.h.zxid d.h.time else N
def dM(S:List bb)(d:aB):List bb:=if cJ d then(kR S d).map (aW d.h.ses d.h.ah)else S
structure RT(T:aT)(N:List aC)(S:List bb):Prop where
 ok:TOk T
 asc:Asc N
 mem:oF N fun q=>aM q T.nodes
 ascS:wZ S
 memS:wY S fun s=>aM s T.aK
theorem EG:RT cg [⟨fR, [],⟨0,0,0,0,0,0,0,0,0,0⟩⟩] []:=by
 refine⟨tok_new,List.pairwise_singleton _ _,fun x=> ?_,List.Pairwise.nil,fun x=>by simp [cg,aM]⟩;rw [List.mem_singleton];show _↔aM x.path [(fR,_)]=_
 rw [aM,aM]
 by_cases e:x.path=fR
 ·rw [show(x.path==fR)=true from beq_iff_eq.2 e]
  constructor
  ·rintro rfl;rfl
  ·intro h
   have h:some (⟨[],⟨0,0,0,0,0,0,0,0,0,0⟩⟩:bn)=some ⟨x.data,x.stat⟩:=h;injection h with h
   injection h with h1 h2
   obtain⟨xp,xd,xs⟩:=x;dsimp only at e h1 h2;rw [e,←h1,←h2]
 ·rw [show(x.path==fR)=false from by simp [e]]
  constructor
  ·rintro rfl;exact absurd rfl e
  ·intro h;cases h
theorem rX{d:aB}(hr:cJ d)(h:d.h.kind=1∨d.h.kind=2∨d.h.kind=3∨d.h.kind=4∨d.h.kind=6∨d.h.kind=7∨d.h.kind=9):d.parts= []:=by
 have hf:=hr.2.2.2.2.2.2.1.2.2.2.2.2.2.2.2.1;rcases hf with hf|hf
 ·unfold iq at hf
  rcases h with e|e|e|e|e|e|e<;>(rw [e]at hf;exact absurd hf (by decide))
 ·exact List.length_eq_zero_iff.1 hf
theorem RT.apply{T:aT}{N:List aC}{S:List bb}(h:RT T N S)(d:aB):RT (aN T d) (dN N d) (dM S d):=by
 obtain⟨h1,h2,h3⟩:=uX h.ok.nd d
 by_cases hr:cJ d
 ·simp only [if_pos hr]at h2 h3
  have hN:Asc (dN N d)∧oF (dN N d) fun q=>doF d q (aM q T.nodes):=by
   unfold dN;rw [if_pos hr]
   by_cases hk:d.h.kind=1∨d.h.kind=2∨d.h.kind=3
   ·have hp:=rX hr (by omega)
    have e:(fun q=>doF d q (aM q T.nodes))=fun q=>oz d.h d.h.zxid d.h.time q (aM q T.nodes):=by
     funext q;unfold doF;rw [if_pos hk]
    rw [hp,e];exact qf h.asc h.mem hk _ _
   ·rw [xK (fun h=>hk (.inl h)) (fun h=>hk (.inr (.inl h))) (fun h=>hk (.inr (.inr h)))]
    by_cases h58:d.h.kind=5∨d.h.kind=8
    ·have e:(fun q=>doF d q (aM q T.nodes))=fun q=>rP d.parts d.h.zxid d.h.time q (aM q T.nodes):=by
       funext q;unfold doF;rw [if_neg hk,if_pos h58]
     rw [e];refine rv _ _ _ h.asc h.mem fun p hp=> ?_
     have hpp:1≤p.h.kind∧p.h.kind≤3:=by
      rcases h58 with h5|h8
      ·have:=(hr.2.2.2.2.2.2.2.1 h5).2.2 p hp
       have hk1:=this.2.2.2.2.2.1.1;have hk2:=this.2.2.2.2.2.2.1;omega
      ·have:=(hr.2.2.2.2.2.2.2.2.2 h8).2.2 p hp
       have hk1:=this.2.2.2.2.2.1.1;have hk2:=this.2.2.2.2.2.2.1;omega
     omega
    ·have hk9:=hr.2.2.2.2.2.2.1.1
     have hp:=rX hr (by omega)
     have e:(fun q=>doF d q (aM q T.nodes))=fun q=>aM q T.nodes:=by
      funext q;unfold doF;rw [if_neg hk,if_neg h58]
     rw [hp,e];exact⟨h.asc,h.mem⟩
  have hS:wZ (dM S d)∧wY (dM S d) fun s=>sitF d s (aM s T.aK):=by
   unfold dM;rw [if_pos hr]
   have h0:wZ (kR S d)∧wY (kR S d) (fun s=>if d.h.kind=4 then(if s=d.h.zxid then some ⟨d.h.zxid,d.h.tmo,d.h.ah⟩else aM s T.aK)else if d.h.kind=5 then(if s=d.h.owner then none else aM s T.aK)else aM s T.aK):=by
    unfold kR
    by_cases h4:d.h.kind=4
    ·simp only [if_pos h4]
     exact⟨EB h.ascS _,Dj h.memS ⟨d.h.zxid,d.h.tmo,d.h.ah⟩⟩
    ·by_cases h5:d.h.kind=5
     ·simp only [if_neg h4,if_pos h5]
      exact⟨xD h.ascS _,Dk h.memS d.h.owner⟩
     ·simp only [if_neg h4,if_neg h5]
      exact⟨h.ascS,h.memS⟩
   refine⟨Ct h0.1 _ _,zW h0.2 (fun s x hx=> ?_) d⟩
   by_cases h4:d.h.kind=4
   ·simp only [if_pos h4]at hx
    by_cases e:s=d.h.zxid
    ·rw [if_pos e]at hx
     injection hx with hx
     rw [←hx,e];exact⟨rfl,hr.1⟩
    ·rw [if_neg e]at hx
     exact h.ok.ses s x hx
   ·by_cases h5:d.h.kind=5
    ·simp only [if_neg h4,if_pos h5]at hx
     by_cases e:s=d.h.owner
     ·rw [if_pos e]at hx;cases hx
     ·rw [if_neg e]at hx;exact h.ok.ses s x hx
    ·simp only [if_neg h4,if_neg h5]at hx
     exact h.ok.ses s x hx
  refine⟨h.ok.apply d,hN.1,fun x=> ?_,hS.1,fun x=> ?_⟩
  ·rw [hN.2 x]
   dsimp only;rw [h2]
  ·rw [hS.2 x]
   dsimp only;rw [h3]
 ·have e1:aN T d=T:=by rw [aN,if_neg hr]
  have e2:dN N d=N:=by rw [dN,if_neg hr]
  have e3:dM S d=S:=by rw [dM,if_neg hr]
  rw [e1,e2,e3];exact h
end
end Go.Proofs.YtphigpccfbfnoaaGreatDoor
namespace Go.Proofs.YtphigpccfbfnoaaGreatDoor
open Go.Sx Go.RowKit
noncomputable section
open Classical
def mH(N:List aC)(p:ByteArray):Option aC:=N.find? fun x=>decide (x.path=p)
theorem FI{T:aT}{N:List aC}{S:List bb}(h:RT T N S)(p:ByteArray):mH N p=(aM p T.nodes).map fun n=>⟨p,n.data,n.stat⟩:=by
 unfold mH
 cases hk:aM p T.nodes with
 |none=>
  rw [Option.map_none,List.find?_eq_none];intro x hx;have:=(h.mem x).1 hx;simp only [decide_eq_true_eq];intro e;dsimp only at this;rw [e,hk]at this;cases this
 |some n=>
  have hm:(⟨p,n.data,n.stat⟩:aC)∈N:=(h.mem _).2 hk
  cases hf:N.find? fun x=>decide (x.path=p)with
  |none=>
   rw [List.find?_eq_none]at hf;exact absurd (hf _ hm) (by simp)
  |some x=>
   have h1:=List.mem_of_find?_eq_some hf;have h2:x.path=p:=by simpa using List.find?_some hf
   have h3:=(h.mem x).1 h1;dsimp only at h3;rw [h2,hk]at h3;injection h3 with h3
   rw [Option.map_some,h3,←h2]
theorem Bs{T:aT}{N:List aC}{S:List bb}(h:RT T N S):(N.map (·.path)).Perm (T.nodes.map (·.1)):=by
 have hn:(N.map (·.path)).Nodup:=(pV.1 h.asc).imp fun {a b} hab e=>by
  rw [e,EM]at hab;cases hab
 refine(List.perm_ext_iff_of_nodup hn h.ok.nd.1).2 fun q=> ?_
 rw [←lB,List.mem_map];constructor
 ·rintro⟨x,hx,rfl⟩ e
  have:=(h.mem x).1 hx;dsimp only at this;rw [e]at this;cases this
 ·intro hq
  obtain⟨n,hn⟩:=Option.ne_none_iff_exists'.1 hq;exact⟨⟨q,n.data,n.stat⟩,(h.mem _).2 hn,rfl⟩
theorem zx{T:aT}{N:List aC}{S:List bb}(h:RT T N S):N.length=T.nodes.length:=by
 have:=(Bs h).length_eq
 rwa [List.length_map,List.length_map]at this
def oS(N:List aC)(x:aC):aC:=⟨x.path,x.data, { x.stat with len:=x.data.length,kids:=(N.countP fun y=>decide (aR y.path=x.path):Nat) }⟩
theorem rt_kids{T:aT}{N:List aC}{S:List bb}(h:RT T N S)(p:ByteArray):mI T p=N.countP fun y=>decide (aR y.path=p):=by
 rw [mI,←(Bs h).countP_eq,List.countP_map];rfl
theorem rt_sits{T:aT}{N:List aC}{S:List bb}(h:RT T N S):aU T=S:=by
 have hn:(S.map (·.ses)).Nodup:=List.pairwise_map.2 (h.ascS.imp fun {a b} hab e=>by
  have hab:a.ses<b.ses:=hab
  omega)
 have hp:(S.map (·.ses)).Perm (T.aK.map (·.1)):=by
  refine(List.perm_ext_iff_of_nodup hn h.ok.nd.2).2 fun q=> ?_
  rw [←lB,List.mem_map];constructor
  ·rintro⟨x,hx,rfl⟩ e
   have:=(h.memS x).1 hx;dsimp only at this;rw [e]at this;cases this
  ·intro hq
   obtain⟨x,hx⟩:=Option.ne_none_iff_exists'.1 hq;have h1:=(h.ok.ses q x hx).1;exact⟨x,(h.memS x).2 (by dsimp only;rw [h1];exact hx),h1⟩
 have hs:fH (S.map (·.ses))=S.map (·.ses):=by
  rw [rn];exact List.mergeSort_of_pairwise (List.pairwise_map.2 (h.ascS.imp fun {a b} hab=>decide_eq_true (Int.le_of_lt hab)))
 rw [aU,←ja hp,hs,List.map_map]
 conv=>rhs;rw [←List.map_id S]
 refine List.map_congr_left fun x hx=> ?_
 have h1:=(h.memS x).1 hx;show fq T.aK x.ses=x
 unfold fq;dsimp only at h1;rw [h1];simp
theorem Br{T:aT}{N:List aC}{S:List bb}(h:RT T N S):S.length=T.aK.length:=by
 rw [←rt_sits h,aU,List.length_map,eN,List.length_map]
def ic(B1:aa)(O1:Nat→Prop)(B2:aa)(O2:Nat→Prop):Prop:=(∀k,O1 k→¬O2 k)∧(∀k o,B1.blk k=some o→¬O2 k)∧∀k o,B2.blk k=some o→¬O1 k
theorem ic.symm{B1 B2:aa}{O1 O2:Nat→Prop}(h:ic B1 O1 B2 O2):ic B2 O2 B1 O1:=⟨fun k h2 h1=>h.1 k h1 h2,h.2.2,h.2.1⟩
theorem tu{A A' B1 B1' B2:aa}{O1 O1' O2:Nat→Prop}(live:∀k,O2 k→∃o,A.blk k=some o)(sub:B2.Sub A)(hA:ic B1 O1 B2 O2)(s:Step A B1 O1 A' B1' O1'):ic B1' O1' B2 O2∧(∀k,O2 k→A'.blk k=A.blk k)∧B2.Sub A':=by
 refine⟨⟨fun k h1 h2=> ?_,fun k o h1 h2=> ?_,fun k o hb h1=> ?_⟩,fun k hk=> ?_,s.stays sub hA.2.2⟩
 ·rcases s.own k h1 with h1|h1
  ·exact hA.1 k h1 h2
  ·obtain⟨o,ho⟩:=live k h2
   rw [h1]at ho;cases ho
 ·rcases s.new k o h1 with h1|h1
  ·exact hA.2.1 k o h1 h2
  ·obtain⟨o,ho⟩:=live k h2
   rw [h1]at ho;cases ho
 ·rcases s.own k h1 with h1|h1
  ·exact hA.2.2 k o hb h1
  ·rw [sub k o hb]at h1;cases h1
 ·obtain⟨o,ho⟩:=live k hk
  rw [ho,s.bk k o ho fun h1=>hA.1 k h1 hk]
theorem Cs{A A' B1 B1' B2:aa}{O1 O1' O2:Nat→Prop}{r:Nat}{N:List aC}{S:List bb}(h2:bC A B2 O2 r N S)(hA:ic B1 O1 B2 O2)(s:Step A B1 O1 A' B1' O1'):bC A' B2 O2 r N S∧ic B1' O1' B2 O2:=by
 obtain⟨l,vn,vs,gn,gs,hl,h⟩:=h2;obtain⟨h3,h4,h5⟩:=tu h.live h.sub hA s;exact⟨⟨l,vn,vs,gn,gs,hl,h.frame h4 h5⟩,h3⟩
theorem EX{A A' B1 B1' B2:aa}{O1 O1' O2:Nat→Prop}{t:Nat}{T:aT}(h2:bz A B2 O2 t T)(hA:ic B1 O1 B2 O2)(s:Step A B1 O1 A' B1' O1'):bz A' B2 O2 t T∧ic B1' O1' B2 O2:=by
 obtain⟨m,s',E,h⟩:=h2;obtain⟨h3,h4,h5⟩:=tu h.live h.sub hA s;exact⟨⟨m,s',E,h.frame h4 h5⟩,h3⟩
theorem GS.sub{A A' C:aa}{O:Nat→Prop}(h:Aside A C O)(hs:A.Sub A'):Aside A' C O:=⟨h.1.trans hs,h.2⟩
def gotX(T:aT)(p:ByteArray):aC:=match aM p T.nodes with
 |none=>⟨⟨#[]⟩, [],xh⟩
 |some n=>⟨p,n.data, { n.stat with len:=n.data.length,kids:=(cZ T p).length }⟩
def gj(N:List aC)(p:ByteArray):aC:=match mH N p with
 |none=>⟨⟨#[]⟩, [],xh⟩
 |some x=>oS N x
theorem rt_got{T:aT}{N:List aC}{S:List bb}(h:RT T N S)(p:ByteArray):gj N p=gotX T p:=by
 unfold gj gotX;rw [FI h]
 cases hk:aM p T.nodes with
 |none=>rfl
 |some n=>
  show oS N ⟨p,n.data,n.stat⟩=_
  unfold oS;rw [FP,rt_kids h]
theorem xx{T:aT}{N:List aC}{S:List bb}(h:RT T N S)(hk:gg T):∀x∈N,x.path.data.toList.length≤140737488351232:=fun x hx=>by
 have h1:=(h.mem x).1 hx;dsimp only at h1;have h2:=hk _ ((fJ h.ok.nd.1).1 h1);obtain⟨q,h3,h4,_⟩:=kZ h2;have h3:x.path.data.toList=47::q:=h3;rw [h3,List.length_cons];omega
theorem yl:gg cg:=fun e he=>by
 simp only [cg,List.mem_singleton]at he;subst he;rfl
def zd(N:List aC):Prop:=∀x∈N,x.path.data.toList.length≤140737488351232
def zw:aL:=⟨RG×Nat,fun g vs A=>vs= [.pointer (some ⟨g.1.r,0,none⟩),.int .i64 (g.2:Nat)]∧bC A g.1.B g.1.O g.1.r g.1.N g.1.S∧g.1.N.length≤1000000∧g.2<g.1.N.length∧zd g.1.N,
 fun g _ A v A'=>A.Sub A'∧∃x,g.1.N[g.2]? =some x∧∃vd,v= .agg (aP (oS g.1.N x,vd)).toArray∧SlB (A'.minus A) vd x.data⟩
structure RtG where
 k:Nat
 A:aa
def jb(N:List aC)(p:ByteArray):Nat:=N.countP fun y=>decide (aR y.path=p)
theorem xC(N:List aC)(k:Nat)(hk:k<N.length)(p:ByteArray):jb (N.take (k+1)) p=jb (N.take k) p+if aR N[k].path=p then 1 else 0:=by
 unfold jb;rw [List.take_succ_eq_append_getElem hk,List.countP_append,List.countP_singleton];simp
theorem CE(N:List aC)(p:ByteArray):jb N p≤N.length:=List.countP_le_length
def EF(A2:aa)(N:List aC)(xp:ByteArray)(vx:Value)(q1 q2 q3 q4 q5 q6 q7 q8 q9:Int):dE:=
 { γ:=RtG,G:=fun g=>g.k≤N.length∧A2.Sub g.A,keepS:= [0,4,5],keepB:= [0],sl:=fun g=> [(6,.v (.int .i64 g.k))],
   bl:=fun g=> [(1,.cells [.v (.string xp),.v vx,.v (.int .i64 q1),.v (.int .i64 q2),.v (.int .i64 q3),.v (.int .i64 q4),.v (.int .i64 q5),.v (.int .i64 q6),.v (.int .i64 q7),.v (.int .i64 q8),.v (.int .i64 q9),.v (.int .i64 (jb (N.take g.k) xp:Nat))] 0 (63+1))],
   ar:=fun g=>g.A,mu:=fun g=>N.length-g.k }
theorem EE:FOk Tryz.prog 129 zw:=by
 refine aS mixed fun⟨⟨N,S,B,O,r⟩,k⟩ vs A hp=> ?_
 obtain⟨rfl,⟨l,vn,vs',gn,gs,hl,h⟩,hN,hk,hsh⟩:vs= [.pointer (some ⟨r,0,none⟩),.int .i64 (k:Nat)]∧bC A B O r N S∧N.length≤1000000∧k<N.length∧zd N:=hp
 have hC:aF Tryz.prog (bu [aE 128 iF] noC):=az (aj _) (fun x hx=>by
  simp only [List.mem_singleton]at hx
  subst hx;exact ai nJ)
 refine⟨_,da Tryz.prog _ noL 60 [(129,0)],60,hC,aH mixed hC (ak _) _ _,fun blk os out tape D hD=> ?_⟩;have hll:l.length=N.length:=by rw [←hl,List.length_map]
 have hkl:k<l.length:=by omega
 obtain⟨_,ao,c,hvn,hc,hy1,hy2,hy3⟩:=h.nrow;obtain⟨e,cc,h8,h9,h10⟩:=hy3 (by omega);subst e;subst hvn;have htop:A.rd r 0 1=some [.slice (some ⟨gn,0,none⟩) l.length c]:=h.top.rd (o:=0) (n:=1) (by show 0+1≤2;omega);have hra:A.rd gn 0 (l.length*12)=some (l.flatMap aP):=by rw [rd_mk h8 (by omega),List.drop_zero,h10]
 have i0:(0:Int)≤(k:Int)∧(k:Int)<(l.length:Int):=by omega
 obtain⟨⟨⟨xp,xd,⟨q1,q2,q3,q4,q5,q6,q7,q8,q9,q10⟩⟩,xv⟩,hx⟩:∃x,x=l[k]:=⟨_,rfl⟩
 have hNk:N[k]? =some ⟨xp,xd,⟨q1,q2,q3,q4,q5,q6,q7,q8,q9,q10⟩⟩:=by
  rw [←hl,List.getElem?_map,List.getElem?_eq_getElem hkl,←hx];rfl
 have hdx:SlB A xv xd:=by
  have:=(h.data l[k] (List.getElem_mem hkl)).sub h.sub;rw [←hx]at this;exact this
 have hrow:=fQ (enc:=aP) (fun _=>rfl) hra k hkl rfl;rw [←hx]at hrow;obtain⟨⟨a7,k7,rfl,hd7,hdl,hz1,hz2,hz3⟩,hdn⟩:=hdx;have hrow:A.rd gn (0+k*12) 12=some [.string xp,.slice a7 xd.length k7,.int .i64 q1,.int .i64 q2,.int .i64 q3,.int .i64 q4,.int .i64 q5,.int .i64 q6,.int .i64 q7,.int .i64 q8,.int .i64 q9,.int .i64 q10]:=hrow
 have hcs:(a7=none∧xd.length=0)∨(∃g7 o7 t7,a7=some ⟨g7,o7,some t7⟩∧xd.length=0)∨∃g7 o7,a7=some ⟨g7,o7,none⟩:=by
  cases a7 with
  |none=>exact .inl ⟨rfl,by have:=hz1 rfl;omega⟩
  |some a=>
   obtain⟨g7,o7,sp⟩:=a
   cases sp with
   |none=>exact .inr (.inr ⟨g7,o7,rfl⟩)
   |some t7=>
    refine .inr (.inl ⟨g7,o7,t7,rfl,?_⟩);rcases Nat.eq_zero_or_pos k7 with hh|hh
    ·omega
    ·have:=hz2 _ rfl hh
     cases this
 refine Or.elim hcs (fun e=> ?_) (fun e=>Or.elim e (fun e=> ?_) (fun e=> ?_));obtain⟨e,h0⟩:=e;subst e
 have hsrc:∀A1,A.Sub A1→(if xd.length=0 then some []else none)=some (xd.map bv):=fun A1 _=>by
  rw [if_pos h0,List.length_eq_zero_iff.1 h0];rfl
 rotate_left;obtain⟨g7,o7,t7,e,h0⟩:=e;subst e
 have hsrc:∀A1,A.Sub A1→(if xd.length=0 then some []else none)=some (xd.map bv):=fun A1 _=>by
  rw [if_pos h0,List.length_eq_zero_iff.1 h0];rfl
 rotate_left;obtain⟨g7,o7,e⟩:=e;subst e
 have hsrc:∀A1,A.Sub A1→(if xd.length=0 then some []else A1.rd g7 o7 (xd.length*1))=some (xd.map bv):=fun A1 hs=>by
  by_cases h0:xd.length=0
  ·rw [if_pos h0,List.length_eq_zero_iff.1 h0];rfl
  ·rw [if_neg h0];exact aJ hs (hz3 (by omega) _ rfl)
 rotate_left
 all_goals
  conv=>lhs;whnf
  repeat(first|refine au hD rfl ?_|refine af htop ?_|refine aq i0 ?_|refine af hrow ?_
         conv=>lhs;whnf)
  refine(hD _).2 fun gb A1 hNw=> ?_
  have hNw:A.New A1 gb #[] 5:=hNw;have htop1:=aJ hNw.sub htop;conv=>lhs;whnf
  repeat(first|refine au hD rfl ?_|refine af htop1 ?_|refine aq i0 ?_
         conv=>lhs;whnf)
  refine(hD _).2 ⟨[],xd.map bv,rfl,hsrc A1 hNw.sub,hdl,fun v hv=>(by
   obtain⟨b,_,rfl⟩:=List.mem_map.1 hv
   rfl),by show 0+xd.length≤9223372036854775807;omega,fun h0=>(by
   rw [ft h0];show xd.length*1≤_
   omega),rfl,fun h=>(by cases h),fun _ _ _ h1 h2=>absurd (by
   have:xd.length=0:=by omega
   rw [List.length_eq_zero_iff.1 this];rfl) h2,fun v A2 hA=> ?_⟩
  obtain⟨s2,hS2⟩:=er hNw.sub hA hdl;obtain⟨ax,cx,hvx⟩:=hS2.form;subst hvx;have htop2:=aJ s2 htop;conv=>lhs;whnf
  repeat(first|refine au hD rfl ?_|refine af htop2 ?_|refine aq i0 ?_
         conv=>lhs;whnf)
  refine(hD _).2 ⟨EF A2 N xp (.slice ax xd.length cx) q1 q2 q3 q4 q5 q6 q7 q8 xd.length,⟨(⟨0,A2⟩:RtG),⟨Nat.zero_le _,aa.Sub.refl _⟩,⟨rfl,trivial⟩,⟨rfl,trivial⟩,rfl⟩,fun(sg:RtG) hG=>⟨⟨trivial,trivial⟩,⟨Nat.lt_succ_self 1,⟨trivial,trivial,trivial,trivial,trivial,trivial,trivial,trivial,trivial,trivial,trivial,trivial,trivial⟩,trivial⟩,?_⟩⟩;obtain⟨j,As⟩:=sg;obtain⟨hj,hAs⟩:j≤N.length∧A2.Sub As:=hG;have sA:=s2.trans hAs;have htopj:=aJ sA htop;conv=>lhs;whnf
  repeat(refine af htopj ?_
         conv=>lhs;whnf)
  refine ab (fun hlt=> ?_) (fun hlt=> ?_)
  ·have hjl:j<l.length:=by
     have hlt:(j:Int)<(l.length:Int):=hlt;omega
   have hjN:j<N.length:=by omega
   have j0:(0:Int)≤(j:Int)∧(j:Int)<(l.length:Int):=by omega
   have r1:=cU (fQ (enc:=aP) (fun _=>rfl) hra j hjl rfl) (i:=0) (m:=1) (by omega);have r1:A.rd gn (0+j*12) 1=some [.string l[j].1.path]:=r1
   have hpj:l[j].1.path=N[j].path:=by
    have h1:(l.map (·.1))[j]? =N[j]? :=by rw [hl]
    rw [List.getElem?_map,List.getElem?_eq_getElem hjl,List.getElem?_eq_getElem hjN,Option.map_some]at h1;injection h1 with h1
    rw [h1]
   have hsj:=hsh N[j] (List.getElem_mem hjN);have hsn:=xC N j hjN xp;have hle:=CE (N.take j) xp;rw [List.length_take]at hle;rw [hpj]at r1;obtain⟨q0,hq0⟩:∃q0,q0=N[j].path:=⟨_,rfl⟩;rw [←hq0]at r1 hsj hsn;have r1s:=aJ sA r1;conv=>lhs;whnf
   repeat(first|refine aq j0 ?_|refine af htopj ?_|refine af r1s ?_
          conv=>lhs;whnf)
   refine(hD _).2 ⟨q0,⟨rfl,hsj⟩,fun v A3 hq=> ?_⟩;have hq:As.Sub A3∧v= .string (aR q0):=hq;obtain⟨s3,hv⟩:=hq;subst hv;have htop3:=aJ s3 htopj;have r13:=aJ s3 r1s;conv=>lhs;whnf
   repeat(first|refine aq j0 ?_|refine af htop3 ?_|refine af r13 ?_|refine au hD rfl ?_
          conv=>lhs;whnf)
   refine aQ (fun hb=> ?_) (fun hb=> ?_)<;>(conv=>lhs;whnf)
   ·have e:aR q0=xp:=jN (bh.1 hb)
    rw [if_pos e]at hsn
    have hcnt:IntKind.i64.wrap ((jb (N.take j) xp:Nat)+1)=((jb (N.take (j+1)) xp:Nat):Int):=by
     rw [hsn];exact w6 (by omega)
    exact(hD _).2 ⟨(⟨j+1,A3⟩:RtG),⟨⟨by show j+1≤N.length;omega,hAs.trans s3⟩,⟨av (k:=j) (by omega),trivial⟩,⟨congrArg (fun x:Int=>some (bS.cells [.v (.string xp),.v (.slice ax xd.length cx),.v (.int .i64 q1),.v (.int .i64 q2),.v (.int .i64 q3),.v (.int .i64 q4),.v (.int .i64 q5),.v (.int .i64 q6),.v (.int .i64 q7),.v (.int .i64 q8),.v (.int .i64 xd.length),.v (.int .i64 x)] 0 (63+1))) hcnt,trivial⟩,rfl⟩,by show N.length-(j+1)<N.length-j;omega,⟨an rfl rfl,an rfl rfl,an rfl rfl,trivial⟩,⟨an rfl rfl,trivial⟩⟩
   ·have e:aR q0≠xp:=fun e=>cr.1 hb (by rw [e])
    rw [if_neg e,Nat.add_zero]at hsn;have hcnt:((jb (N.take j) xp:Nat):Int)=((jb (N.take (j+1)) xp:Nat):Int):=congrArg (fun n:Nat=>(n:Int)) hsn.symm;exact(hD _).2 ⟨(⟨j+1,A3⟩:RtG),⟨⟨by show j+1≤N.length;omega,hAs.trans s3⟩,⟨av (k:=j) (by omega),trivial⟩,⟨congrArg (fun x:Int=>some (bS.cells [.v (.string xp),.v (.slice ax xd.length cx),.v (.int .i64 q1),.v (.int .i64 q2),.v (.int .i64 q3),.v (.int .i64 q4),.v (.int .i64 q5),.v (.int .i64 q6),.v (.int .i64 q7),.v (.int .i64 q8),.v (.int .i64 xd.length),.v (.int .i64 x)] 0 (63+1))) hcnt,trivial⟩,rfl⟩,by show N.length-(j+1)<N.length-j;omega,⟨an rfl rfl,an rfl rfl,an rfl rfl,trivial⟩,⟨an rfl rfl,trivial⟩⟩
  ·have e:j=N.length:=by
     have hlt:¬(j:Int)<(l.length:Int):=hlt;omega
   subst e
   have hend:zw.post (⟨N,S,B,O,r⟩,k) [] A (.agg #[.string xp,.slice ax xd.length cx,.int .i64 q1,.int .i64 q2,.int .i64 q3,.int .i64 q4,.int .i64 q5,.int .i64 q6,.int .i64 q7,.int .i64 q8,.int .i64 xd.length,.int .i64 (jb (N.take N.length) xp:Nat)]) As:=by
    refine⟨sA,_,hNk,.slice ax xd.length cx,?_,(SlB.sub (Fu hAs) ⟨hS2,hdn⟩)⟩;rw [List.take_length];rfl
   conv=>lhs;whnf
   exact(hD _).2 hend
theorem Dv{N:List aC}{p:ByteArray} :(mH N p=none∧cM N p<0)∨∃k:Nat,∃hk:k<N.length,mH N p=some N[k]∧cM N p=(k:Nat):=by
 unfold mH cM
 cases hf:N.findIdx? fun x=>decide (x.path=p)with
 |none=>
  refine .inl ⟨?_,by show(-1:Int)<0;omega⟩;rw [List.findIdx?_eq_none_iff]at hf;rw [List.find?_eq_none];intro x hx;simpa using hf x hx
 |some i=>
  rw [List.findIdx?_eq_some_iff_getElem]at hf;obtain⟨h1,h2,h3⟩:=hf;refine .inr ⟨i,h1,?_,rfl⟩;rw [List.find?_eq_some_iff_getElem];exact⟨h2,i,h1,rfl,fun j hj=>by simpa using h3 j hj⟩
def Bx:aL:=⟨RG×ByteArray,fun g vs A=>vs= [.pointer (some ⟨g.1.r,0,none⟩),.string g.2]∧bC A g.1.B g.1.O g.1.r g.1.N g.1.S∧g.1.N.length≤1000000∧zd g.1.N,
 fun g _ A v A'=>A.Sub A'∧∃vd,v= .tuple #[.agg (aP (gj g.1.N g.2,vd)).toArray,.bool (mH g.1.N g.2).isSome]∧SlB (A'.minus A) vd (gj g.1.N g.2).data⟩
theorem rget_ok:FOk Tryz.prog 87 Bx:=by
 refine aS mixed fun⟨⟨N,S,B,O,r⟩,p⟩ vs A hp=> ?_
 obtain⟨rfl,hRef,hN,hsh⟩:vs= [.pointer (some ⟨r,0,none⟩),.string p]∧bC A B O r N S∧N.length≤1000000∧zd N:=hp
 have hC:aF Tryz.prog (bu [aE 85 sX,aE 129 zw] noC):=az (aj _) (fun x hx=>by
  simp only [List.mem_cons,List.not_mem_nil,or_false]at hx;rcases hx with rfl|rfl
  ·exact ai qT
  ·exact ai EE)
 refine⟨_,noL,60,hC,ak _,fun blk os out tape D hD=> ?_⟩;conv=>lhs;whnf
 refine(hD _).2 ⟨(⟨N,S,B,O,r⟩,p),⟨rfl,hRef,hN⟩,fun v A9 hq=> ?_⟩;have hq:A9=A∧v= .int .i64 (cM N p):=hq;have h9:=hq.1.symm;have hv:=hq.2;subst h9;refine Or.elim (Dv (N:=N) (p:=p)) (fun hf=> ?_) (fun hf=> ?_)
 ·obtain⟨hf1,hf2⟩:=hf
  subst hv
  have hend:Bx.post (⟨N,S,B,O,r⟩,p) [] A (.tuple #[nQ ⟨#[]⟩ (.slice none 0 0) xh,.bool false]) A:=by
   refine⟨aa.Sub.refl _,.slice none 0 0,?_,?_⟩
   ·show _=Value.tuple #[.agg (aP (gj N p,_)).toArray,.bool (mH N p).isSome]
    unfold gj;rw [hf1];rfl
   ·show SlB _ _ (gj N p).data
    unfold gj;rw [hf1];exact⟨Sl.nil _ _,by simp⟩
  conv=>lhs;whnf
  refine bP hf2 ?_;conv=>lhs;whnf
  exact(hD _).2 hend
 obtain⟨i,hi,hf1,hf2⟩:=hf;rw [hf2]at hv;subst hv;conv=>lhs;whnf
 refine(hD _).2 ⟨(⟨N,S,B,O,r⟩,i),⟨rfl,hRef,hN,hi,hsh⟩,fun v A1 hq=> ?_⟩;have hq:A.Sub A1∧∃x,N[i]? =some x∧∃vd,v= .agg (aP (oS N x,vd)).toArray∧SlB (A1.minus A) vd x.data:=hq;obtain⟨s1,x,hx,vd,hv,hd⟩:=hq
 have hNx:N[i]=x:=by
  rw [List.getElem?_eq_getElem hi]at hx;injection hx
 have hend:Bx.post (⟨N,S,B,O,r⟩,p) [] A (.tuple #[v,.bool true]) A1:=by
  refine⟨s1,vd,?_,?_⟩
  ·show _=Value.tuple #[.agg (aP (gj N p,_)).toArray,.bool (mH N p).isSome]
   unfold gj;rw [hf1,hv,hNx];rfl
  ·show SlB _ _ (gj N p).data
   unfold gj;rw [hf1,hNx];exact hd
 obtain⟨⟨xp,xd,⟨q1,q2,q3,q4,q5,q6,q7,q8,q9,q10⟩⟩,hy⟩:∃y,y=oS N x:=⟨_,rfl⟩;rw [←hy]at hv;subst hv;obtain⟨ax,cx,hvd⟩:=hd.1.form;subst hvd;conv=>lhs;whnf
 exact(hD _).2 hend
def cD(N:Option (List aC))(p:ByteArray):ec:=match N with
 |none=>st0
 |some N=>(gj N p).stat
def wW(A:aa)(t:Option Nat)(N:Option (List aC)):Prop:=(t=none∧N=none)∨∃r N' B O S,t=some r∧N=some N'∧bC A B O r N' S∧N'.length≤1000000∧zd N'
def vu:aL:=⟨Option Nat×Option (List aC)×ByteArray,fun g vs A=>vs= [mT g.1,.string g.2.2]∧wW A g.1 g.2.1,fun g _ A v A'=>A.Sub A'∧v= .agg (cD g.2.1 g.2.2).cells.toArray⟩
theorem xz:FOk Tryz.prog 41 vu:=by
 refine aS mixed fun⟨t,N,p⟩ vs A hp=> ?_
 obtain⟨rfl,hT⟩:vs= [mT t,.string p]∧wW A t N:=hp
 have hC:aF Tryz.prog (bu [aE 87 Bx] noC):=az (aj _) (fun x hx=>by
  simp only [List.mem_singleton]at hx
  subst hx;exact ai rget_ok)
 refine⟨_,noL,60,hC,ak _,fun blk os' out tape D hD=> ?_⟩;rcases hT with⟨rfl,rfl⟩|⟨r,N',B,O,S,rfl,rfl,hR,hl,hsh⟩
 ·conv=>lhs;whnf
  repeat(first|refine au hD rfl ?_
         conv=>lhs;whnf)
  exact(hD _).2 ⟨aa.Sub.refl _,rfl⟩
 ·obtain⟨⟨gp,gd,⟨s1,s2,s3,s4,s5,s6,s7,s8,s9,s10⟩⟩,hs⟩:∃s,gj N' p=s:=⟨_,rfl⟩
  have hend:∀A1,A.Sub A1→vu.post (some r,some N',p) [] A (.agg (ec.cells ⟨s1,s2,s3,s4,s5,s6,s7,s8,s9,s10⟩).toArray) A1:=fun A1 h=>⟨h,by show _=Value.agg (gj N' p).stat.cells.toArray;rw [hs]⟩
  conv=>lhs;whnf
  repeat(first|refine au hD rfl ?_
         conv=>lhs;whnf)
  refine(hD _).2 ⟨((⟨N',S,B,O,r⟩:RG),p),⟨rfl,hR,hl,hsh⟩,fun v A1 hq=> ?_⟩;obtain⟨hs1,vd,hv,hd⟩:A.Sub A1∧∃vd,v= .tuple #[.agg (aP (gj N' p,vd)).toArray,.bool (mH N' p).isSome]∧SlB (A1.minus A) vd (gj N' p).data:=hq;obtain⟨ad,cd,hvd⟩:=hd.1.form;rw [hvd,hs]at hv;subst hv;conv=>lhs;whnf
  repeat(first|refine au hD rfl ?_
         conv=>lhs;whnf)
  exact(hD _).2 (hend A1 hs1)
structure RcG where
 t:Option Nat
 N:Option (List aC)
 h:bJ
def oU:aL:=⟨RcG,fun g vs A=>∃a1 l1 k1 a2 l2 k2 a3 l3 k3,vs= [mT g.t,bx (g.h.cells (.slice a1 l1 k1) (.slice a2 l2 k2) (.slice a3 l3 k3))]∧wW A g.t g.N,fun g _ A v A'=>A.Sub A'∧v= .agg (cN (cD g.N) g.h).cells.toArray⟩
theorem EI:FOk Tryz.prog 42 oU:=by
 refine aS mixed fun⟨t,N,⟨zxid,dk,ses,ah,xid,dtime,path,data,owner,ver,cver,tmo,err,cfg,mem⟩⟩ vs A hp=> ?_
 obtain⟨a1,l1,k1,a2,l2,k2,a3,l3,k3,rfl,hT⟩:∃a1 l1 k1 a2 l2 k2 a3 l3 k3,vs= [mT t,bx (bJ.cells ⟨zxid,dk,ses,ah,xid,dtime,path,data,owner,ver,cver,tmo,err,cfg,mem⟩ (.slice a1 l1 k1) (.slice a2 l2 k2) (.slice a3 l3 k3))]∧wW A t N:=hp
 have hC:aF Tryz.prog (bu [aE 41 vu] noC):=az (aj _) (fun x hx=>by
  simp only [List.mem_singleton]at hx
  subst hx;exact ai xz)
 refine⟨_,noL,60,hC,ak _,fun blk os' out tape D hD=> ?_⟩;obtain⟨⟨z1,z2,z3,z4,z5,z6,z7,z8,z9,z10⟩,hs⟩:∃s,cD N path=s:=⟨_,rfl⟩
 by_cases p1:dk=1
 ·subst p1
  have hend:∀A1,A.Sub A1→oU.post (⟨t,N,⟨zxid,1,ses,ah,xid,dtime,path,data,owner,ver,cver,tmo,err,cfg,mem⟩⟩:RcG) [] A (.agg (dj.cells ⟨3,0,path,⟨z1,z2,z3,z4,z5,z6,z7,z8,z9,z10⟩⟩).toArray) A1:=fun A1 h=>⟨h,by
   show _=Value.agg (dj.cells (cN (cD N) ⟨zxid,1,ses,ah,xid,dtime,path,data,owner,ver,cver,tmo,err,cfg,mem⟩)).toArray
   unfold cN
   rw [if_pos rfl,hs]⟩
  conv=>lhs;whnf
  repeat(first|refine au hD rfl ?_
         conv=>lhs;whnf)
  refine(hD _).2 ⟨(t,N,path),⟨rfl,hT⟩,fun v A2 hq=> ?_⟩;obtain⟨s2,hv⟩:A.Sub A2∧v= .agg (cD N path).cells.toArray:=hq;rw [hs]at hv;subst hv;conv=>lhs;whnf
  repeat(first|refine au hD rfl ?_
         conv=>lhs;whnf)
  exact(hD _).2 (hend A2 s2)
 by_cases p3:dk=3
 ·subst p3
  have hend:∀A1,A.Sub A1→oU.post (⟨t,N,⟨zxid,3,ses,ah,xid,dtime,path,data,owner,ver,cver,tmo,err,cfg,mem⟩⟩:RcG) [] A (.agg (dj.cells ⟨5,0,⟨#[]⟩,⟨z1,z2,z3,z4,z5,z6,z7,z8,z9,z10⟩⟩).toArray) A1:=fun A1 h=>⟨h,by
   show _=Value.agg (dj.cells (cN (cD N) ⟨zxid,3,ses,ah,xid,dtime,path,data,owner,ver,cver,tmo,err,cfg,mem⟩)).toArray
   unfold cN
   rw [if_neg (show ¬((3:Int)=1)by decide),if_pos rfl,hs]⟩
  conv=>lhs;whnf
  repeat(first|refine au hD rfl ?_
         conv=>lhs;whnf)
  refine(hD _).2 ⟨(t,N,path),⟨rfl,hT⟩,fun v A2 hq=> ?_⟩;obtain⟨s2,hv⟩:A.Sub A2∧v= .agg (cD N path).cells.toArray:=hq;rw [hs]at hv;subst hv;conv=>lhs;whnf
  repeat(first|refine au hD rfl ?_
         conv=>lhs;whnf)
  exact(hD _).2 (hend A2 s2)
 by_cases p2:dk=2
 ·subst p2
  have hend:oU.post (⟨t,N,⟨zxid,2,ses,ah,xid,dtime,path,data,owner,ver,cver,tmo,err,cfg,mem⟩⟩:RcG) [] A (.agg (dj.cells ⟨4,0,⟨#[]⟩,st0⟩).toArray) A:=⟨aa.Sub.refl _,rfl⟩;conv=>lhs;whnf
  repeat(first|refine au hD rfl ?_
         conv=>lhs;whnf)
  exact(hD _).2 hend
 have hend:oU.post (⟨t,N,⟨zxid,dk,ses,ah,xid,dtime,path,data,owner,ver,cver,tmo,err,cfg,mem⟩⟩:RcG) [] A (.agg (dj.cells ⟨0,0,⟨#[]⟩,st0⟩).toArray) A:=⟨aa.Sub.refl _,by
  show _=Value.agg (dj.cells (cN (cD N) ⟨zxid,dk,ses,ah,xid,dtime,path,data,owner,ver,cver,tmo,err,cfg,mem⟩)).toArray
  unfold cN
  rw [if_neg p1,if_neg p3,if_neg p2]⟩
 conv=>lhs;whnf
 repeat(first|refine aI p1 ?_|refine aI p3 ?_|refine aI p2 ?_|refine au hD rfl ?_
        conv=>lhs;whnf)
 exact(hD _).2 hend
end
end Go.Proofs.YtphigpccfbfnoaaGreatDoor
