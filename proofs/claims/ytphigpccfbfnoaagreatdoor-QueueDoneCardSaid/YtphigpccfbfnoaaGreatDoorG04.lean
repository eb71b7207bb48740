/-
  Parts of the proof: SxG SxH
-/
import Derived.Test.YtphigpccfbfnoaaGreatDoorG03
set_option maxRecDepth 100000
set_option maxHeartbeats 0
namespace Go.Sx
noncomputable section
theorem mo{w:World}{blk o:Nat}{c:Array Value}{t:TypeId}{fz:Nat×Nat}(h:w.heap[blk]? =some (.cells c t fz)):w.cell? ⟨blk,o,none⟩=c[o]? :=by
 simp [World.cell?,h]
theorem DN{w:World}{blk o:Nat}{c:Array Value}{t:TypeId}{fz:Nat×Nat}(h:w.heap[blk]? =some (.cells c t fz))(hf:¬(fz.1≤o∧o<fz.2)):w.frozen? ⟨blk,o,none⟩=false:=by
 obtain⟨lo,hi⟩:=fz;simp only [World.frozen?,h];simp only [not_and]at hf
 by_cases h1:lo≤o
 ·simp [h1,hf h1]
 ·simp [h1]
theorem nZ{P:Program}{w:World}{blk o:Nat}{c:Array Value}{t:TypeId}{fz:Nat×Nat}{v:Value}(h:w.heap[blk]? =some (.cells c t fz))(hv:c[o]? =some v):
  (load ⟨blk,o,none⟩).run P w= .ok v w:=by
 simp [mo h,hv]
theorem ep{P:Program}{w:World}{blk o:Nat}{c:Array Value}{t:TypeId}{fz:Nat×Nat}(h:w.heap[blk]? =some (.cells c t fz)):∀(vs:List Value) (i:Nat) (acc:Array Value),
  (∀j v,vs[j]? =some v→c[o+(i+j)]? =some v)→(loadCellsFrom ⟨blk,o,none⟩ i vs.length acc).run P w= .ok (acc++vs.toArray) w:=by
 intro vs
 induction vs with
 |nil=>intro i acc _;simp [loadCellsFrom]
 |cons v vs ih=>
  intro i acc hv;simp only [List.length_cons,loadCellsFrom,Sem.run_bind,db];have h0:=hv 0 v rfl;simp only [Nat.add_zero]at h0;rw [nZ h h0];simp only [Result.andThen_ok];rw [ih (i+1) (acc.push v) (fun j u hj=>by have:=hv (j+1) u (by simpa using hj);rw [show i+1+j=i+(j+1)by omega];exact this)];congr 1;apply Array.toList_inj.1;simp
structure Same(blk:Nat)(w w':World):Prop where
 other:∀k,k≠blk→w'.heap[k]? =w.heap[k]?
 os:w'.os=w.os
 out:w'.output=w.output
 tape:w'.tape=w.tape
theorem tE{w:World}{blk o:Nat}{c:Array Value}{t:TypeId}{fz:Nat×Nat}(h:w.heap[blk]? =some (.cells c t fz))(v:Value):(w.setCell ⟨blk,o,none⟩ v).heap[blk]? =some (.cells (c.setIfInBounds o v) t fz):=by
 simp only [World.setCell,Array.getElem?_modify,if_true,h,Option.map_some,Option.isSome_none,Bool.false_eq_true,if_false]
theorem tD{w:World}{blk o k:Nat}(v:Value)(h:k≠blk):(w.setCell ⟨blk,o,none⟩ v).heap[k]? =w.heap[k]? :=by
 simp only [World.setCell,Array.getElem?_modify];rw [if_neg (fun e=>h e.symm)]
theorem iB{P:Program}{blk o:Nat}{t:TypeId}{fz:Nat×Nat} :∀(vs:List Value) (i:Nat) (w:World) (c:Array Value),w.heap[blk]? =some (.cells c t fz)→
  o+i+vs.length≤c.size→(∀k,k<c.size→¬(fz.1≤k∧k<fz.2))→(∀v∈vs,v.oneCell'=true)→
  ∃w' c',(storeCells ⟨blk,o,none⟩ vs i).run P w= .ok () w'∧w'.heap[blk]? =some (.cells c' t fz)∧c'.toList=c.toList.take (o+i)++vs++c.toList.drop (o+i+vs.length)∧Same blk w w':=by
 intro vs
 induction vs with
 |nil=>intro i w c h _ _ _;exact⟨w,c,rfl,h,by simp,⟨fun _ _=>rfl,rfl,rfl,rfl⟩⟩
 |cons v vs ih=>
  intro i w c h hs hf ho;simp only [List.length_cons]at hs;have hlt:o+i<c.size:=by omega
  have h1:=tE (o:=o+i) h v;obtain⟨w',c',k1,k2,k3,k4⟩:=ih (i+1) (w.setCell ⟨blk,o+i,none⟩ v) (c.setIfInBounds (o+i) v) h1 (by simp;omega) (by simpa using hf) (fun u hu=>ho u (List.mem_cons_of_mem _ hu));refine⟨w',c',?_,k2,?_,⟨fun k hk=>(k4.other k hk).trans (tD v hk),k4.os,k4.out,k4.tape⟩⟩
  ·simp only [storeCells,Sem.run_bind,db]
   rw [run_store P w _ v _ (ho v List.mem_cons_self),mo h,Array.getElem?_eq_getElem hlt];simp only [DN h (hf _ hlt),Bool.false_eq_true,if_false,Result.andThen_ok];exact k1
  ·rw [k3]
   simp only [Array.toList_setIfInBounds,List.length_cons];have hlt':o+i<c.toList.length:=by simpa using hlt
   rw [show o+(i+1)=(o+i)+1 by omega,show(o+i)+1+vs.length=o+i+(vs.length+1)by omega];rw [List.take_add_one,List.take_set_of_le (Nat.le_refl _),List.drop_set_of_lt (by omega),List.getElem?_set_self hlt'];simp
def takeN:Nat→List SV→Option (List SV)
 |0,_=>some []
 |n+1,x::xs=>match takeN n xs with
  |some l=>some (x::l)
  |none=>none
 |_+1, []=>none
theorem gA:∀ {n:Nat} {l out:List SV},takeN n l=some out→out.length=n∧∀(j:Nat) (x:SV),out[j]? =some x→l[j]? =some x:=by
 intro n
 induction n with
 |zero=>intro l out h;simp only [takeN,Option.some.injEq]at h;subst h;exact⟨rfl,fun j x hj=>by simp at hj⟩
 |succ n ih=>
  intro l out h
  cases l with
  |nil=>simp [takeN]at h
  |cons y ys=>
   simp only [takeN]at h
   split at h
   ·rename_i l' hl'
    injection h with h;subst h
    obtain⟨h1,h2⟩:=ih hl';refine⟨by simp [h1],fun j x hj=> ?_⟩
    cases j with
    |zero=>exact hj
    |succ j=>exact h2 j x hj
   ·cases h
def BO(g:Nat):List (Nat×List Value)→Option (List Value)
 | []=>none
 |x::xs=>bif Nat.beq x.1 g then some x.2 else BO g xs
theorem DL{g:Nat}{cs:List Value} :∀ {l:List (Nat×List Value)},BO g l=some cs→(g,cs)∈l:=by
 intro l
 induction l with
 |nil=>intro h;cases h
 |cons x l ih=>
  intro h;simp only [BO]at h
  cases hb:Nat.beq x.1 g with
  |true=>
   rw [hb]at h;injection h with h
   have:=Nat.eq_of_beq_eq_true hb;subst this;subst h
   exact List.mem_cons_self
  |false=>
   rw [hb]at h;exact List.mem_cons_of_mem _ (ih h)
def loadG(s:STy)(o:Nat)(cs:List Value):Option SV:=
 bif TypeDesc.isAgg s.und then(takeN s.size ((cs.drop o).map .v)).map .agg else(nth cs o).map .v
def FL(s:STy)(r:Option (List Value)):Option SV:=match r with
 |some vs=>bif TypeDesc.isAgg s.und then some (.v (.agg vs.toArray))else(match vs with
  | [v]=>some (.v v)
  |_=>none)
 |none=>none
theorem rd_some{A:aa}{g o n:Nat}{vs:List Value}(h:A.rd g o n=some vs):∃c t fz,A.blk g=some (.cells c t fz)∧o+n≤c.size∧vs=(c.toList.drop o).take n:=by
 rw [A.rdeq]at h;unfold zF at h
 split at h
 ·rename_i c t fz hb
  split at h
  ·rename_i hle
   injection h with h
   exact⟨c,t,fz,hb,hle,h.symm⟩
  ·cases h
 ·cases h
theorem vC{A:aa}{g o n:Nat}{vs:List Value}(h:A.rd g o n=some vs):vs.length=n:=by
 obtain⟨c,t,fz,_,h1,rfl⟩:=rd_some h;simp;omega
def iW(P:Program)(h:HS)(t:TypeId)(x:SV):Option SV:=
 match ty P t with
 |none=>none
 |some s=>match x with
  | .ptr b o=>match h.H.get b with
    |some (.cells cs _ _)=>bif TypeDesc.isAgg s.und then(takeN s.size (cs.drop o)).map .agg else cs[o]?
    |_=>none
  | .v (.pointer (some ⟨g,o,none⟩))=>bif h.M.X.op then FL s (h.M.A.rd g o s.size)else(match BO g h.M.gl with
    |some cs=>loadG s o cs
    |none=>none)
  |_=>none
theorem uG{P:Program}{h:HS}{t:TypeId}{x z:SV}(hz:iW P h t x=some z){ρ:Nat→Loc}{w:World}(H:ba ρ h w):(Instr.loadAt t (x.den ρ)).run P w= .ok (z.den ρ) w∧z.lt ρ h.nx:=by
 unfold iW at hz
 split at hz
 ·cases hz
 ·rename_i s hs
  split at hz
  ·rename_i b o
   split at hz
   ·rename_i cs es τ hb
    obtain⟨_,h2,c,t',fz,h3,h4,h5,h7,h6⟩:=H.blk b _ hb;simp only [Instr.loadAt,SV.den,Instr.sureAddr,Sem.run_bind,Sem.run_pure,Result.andThen_ok,loadVar,nN w hs]
    cases ha:TypeDesc.isAgg s.und with
    |true=>
     rw [ha]at hz;simp only [cond_true,Option.map_eq_some_iff]at hz;obtain⟨l,hl,rfl⟩:=hz;obtain⟨k1,k2⟩:=gA hl;simp only [if_true,Sem.run_bind,bK w hs,Result.andThen_ok,loadCells]
     have:=ep (P:=P) (o:=(ρ b).off+o) h3 (l.map (SV.den ρ)) 0 #[] (fun j v hj=>by
      rw [List.getElem?_map]at hj
      cases hx:l[j]? with
      |none=>rw [hx]at hj;cases hj
      |some x=>
       rw [hx]at hj;injection hj with hj;subst hj
       have:=k2 j x hx;rw [List.getElem?_drop]at this;rw [Nat.zero_add,Nat.add_assoc]
       exact h4 (o+j) x this)
     rw [List.length_map,k1]at this;rw [this];refine⟨by simp [SV.den,dP],eh.2 fun y hy=> ?_⟩;obtain⟨j,hj⟩:=List.mem_iff_getElem?.1 hy;have:=k2 j y hj;exact h2 y (List.mem_of_mem_drop (List.mem_of_getElem? this))
    |false=>
     rw [ha]at hz;simp only [cond_false]at hz;simp only [Bool.false_eq_true,if_false];exact⟨nZ h3 (h4 o z hz),h2 z (List.mem_of_getElem? hz)⟩
   ·cases hz
  ·rename_i g o
   cases hop:h.M.X.op with
   |true=>
    rw [hop]at hz;simp only [cond_true]at hz;unfold FL at hz
    split at hz
    ·rename_i vs hvs
     obtain⟨c,t',fz,hc,hle,hvs'⟩:=rd_some hvs;have hlen:=vC hvs;have h3:=H.are g _ hc
     have key:∀j v,vs[j]? =some v→c[o+(0+j)]? =some v:=fun j v hj=>by
      rw [hvs']at hj
      have hj':j<s.size:=by
       have:=(List.getElem?_eq_some_iff.1 hj).1;simp at this;omega
      rw [List.getElem?_take_of_lt hj',List.getElem?_drop,Array.getElem?_toList]at hj;rw [Nat.zero_add];exact hj
     simp only [Instr.loadAt,SV.den,Instr.sureAddr,Sem.run_bind,Sem.run_pure,Result.andThen_ok,loadVar,nN w hs]
     cases ha:TypeDesc.isAgg s.und with
     |true=>
      rw [ha]at hz;simp only [cond_true,Option.some.injEq]at hz;subst hz;simp only [if_true,Sem.run_bind,bK w hs,Result.andThen_ok,loadCells];have:=ep (P:=P) (o:=o) h3 vs 0 #[] key;rw [hlen]at this;rw [this];exact⟨by simp [SV.den],trivial⟩
     |false=>
      rw [ha]at hz;simp only [cond_false]at hz
      match vs,key,hz with
      | [v],key,hz=>
        injection hz with hz
        subst hz;simp only [Bool.false_eq_true,if_false];exact⟨nZ h3 (by have:=key 0 v rfl;simpa [SV.den]using this),trivial⟩
    ·cases hz
   |false=>
   rw [hop]at hz;simp only [cond_false]at hz
   split at hz
   ·rename_i cs hg
    obtain⟨c,t',fz,hc,h4⟩:=h.M.glok g cs (DL hg);have h3:=H.mem g _ hc;unfold loadG at hz;simp only [Instr.loadAt,SV.den,Instr.sureAddr,Sem.run_bind,Sem.run_pure,Result.andThen_ok,loadVar,nN w hs]
    cases ha:TypeDesc.isAgg s.und with
    |true=>
     rw [ha]at hz;simp only [cond_true,Option.map_eq_some_iff]at hz;obtain⟨l,hl,rfl⟩:=hz;obtain⟨k1,k2⟩:=gA hl
     have k3:∀(j:Nat) (x:SV),l[j]? =some x→∃v,x= .v v∧cs[o+j]? =some v:=fun j x hj=>by
      have:=k2 j x hj;rw [List.getElem?_map,List.getElem?_drop]at this
      cases hv:cs[o+j]? with
      |none=>rw [hv]at this;cases this
      |some v=>rw [hv]at this;injection this with this;exact⟨v,this.symm,rfl⟩
     simp only [if_true,Sem.run_bind,bK w hs,Result.andThen_ok,loadCells]
     have:=ep (P:=P) (o:=o) h3 (l.map (SV.den ρ)) 0 #[] (fun j v hj=>by
      rw [List.getElem?_map]at hj
      cases hx:l[j]? with
      |none=>rw [hx]at hj;cases hj
      |some x=>
       rw [hx]at hj;injection hj with hj;subst hj
       obtain⟨v,rfl,hv⟩:=k3 j x hx;rw [Nat.zero_add]
       exact h4 (o+j) v hv)
     rw [List.length_map,k1]at this;rw [this];refine⟨by simp [SV.den,dP],eh.2 fun y hy=> ?_⟩;obtain⟨j,hj⟩:=List.mem_iff_getElem?.1 hy;obtain⟨v,rfl,_⟩:=k3 j y hj;trivial
    |false=>
     rw [ha]at hz;simp only [cond_false,Option.map_eq_some_iff,lh]at hz;obtain⟨v,hv,rfl⟩:=hz;simp only [Bool.false_eq_true,if_false];exact⟨nZ h3 (h4 o v hv),trivial⟩
   ·cases hz
  ·cases hz
def HS.new(h:HS)(B:bS):HS:=match h with
 |⟨H,nx,M⟩=>⟨H.set nx B,nx+1,M⟩
theorem l5{ρ:Nat→Loc}{h:HS}{w:World}(H:ba ρ h w){cs:List SV}(hl:∀x∈cs,x.lt ρ h.nx)(c:Array Value)(hc:c=(cs.map (SV.den ρ)).toArray)(t:TypeId):
  ba (extend ρ h.nx ⟨w.heap.size,0,0⟩) (h.new (.cells cs 0 (t+1))) { w with heap:=w.heap.push (.cells c t) } :=by
 refine H.alloc (o:= .cells c t) (B:= .cells cs 0 (t+1)) (L:=⟨w.heap.size,0,0⟩) rfl hl fun w' hw'=>⟨c,t,(0,0),hw',fun i x hi=> ?_,by simp,.inl rfl,.inl rfl,.inr ⟨rfl,rfl,fun _=>by rw [hc];simp⟩⟩
 subst hc;simp [hi]
def plain? :SV→Option Value
 | .v x=>some x
 | .str l=>some (.string ⟨l.toArray⟩)
 |_=>none
def je:List SV→Option (List Value)
 | []=>some []
 |x::xs=>match plain? x with
  |some v=>match je xs with
   |some vs=>some (v::vs)
   |none=>none
  |none=>none
theorem CX{x:SV}{v:Value}(h:plain? x=some v)(ρ:Nat→Loc):x.den ρ=v:=by
 unfold plain? at h
 split at h
 ·injection h
 ·injection h
 ·cases h
theorem eI(ρ:Nat→Loc):∀(l:List SV) (vs:List Value),je l=some vs→l.map (SV.den ρ)=vs
 | [],vs,h=>by injection h
 |x::xs,vs,h=>by
  simp only [je]at h
  split at h
  ·rename_i v hv
   split at h
   ·rename_i us hus
    injection h with h;subst h
    rw [List.map_cons,CX hv ρ,eI ρ xs us hus]
   ·cases h
  ·cases h
structure aa.New(A A':aa)(g:Nat)(c:Array Value)(t:TypeId):Prop where
 none_:A.blk g=none
 at_:A'.blk g=some (.cells c t (0,0))
 other:∀k,k≠g→A'.blk k=A.blk k
theorem mr{ρ:Nat→Loc}{h:HS}{w:World}(H:ba ρ h w)(o:Obj)(d:Nat):
  ∃A',h.M.A.blk w.heap.size=none∧A'.blk w.heap.size=some o∧(∀k,k≠w.heap.size→A'.blk k=h.M.A.blk k)∧ba ρ (h.put A') { w with drawn:=d,heap:=w.heap.push o } :=by
 have hno:h.M.A.blk w.heap.size=none:=by
  cases hA:h.M.A.blk w.heap.size with
  |none=>rfl
  |some o=>have:=(Array.getElem?_eq_some_iff.1 (H.are _ _ hA)).1;omega
 have hold:∀k,k≠w.heap.size→(w.heap.push o)[k]? =w.heap[k]? :=fun k hk=>by
  rw [Array.getElem?_push,if_neg hk]
 refine⟨aa.of fun k=>if k=w.heap.size then some o else h.M.A.blk k,hno,by simp [aa.of],fun k hk=>by simp [aa.of,hk],H.uW (w':= { w with drawn:=d,heap:=w.heap.push o }) rfl rfl rfl (fun k _ hk=>hold k (by omega)) (fun k o' hk=> ?_) fun k o' hk=> ?_⟩
 ·simp only [aa.of]at hk
  by_cases hkg:k=w.heap.size
  ·subst hkg
   rw [if_pos rfl]at hk;show(w.heap.push o)[w.heap.size]? =some o'
   rw [←hk];simp
  ·rw [if_neg hkg]at hk
   show(w.heap.push o)[k]? =some o'
   rw [hold k hkg];exact H.are k o' hk
 ·simp only [aa.of]at hk
  by_cases hkg:k=w.heap.size
  ·exact .inr (by omega)
  ·rw [if_neg hkg]at hk;exact .inl ⟨_,hk⟩
theorem jP{ρ:Nat→Loc}{h:HS}{w:World}(H:ba ρ h w)(c:Array Value)(t:TypeId)(d:Nat):
  ∃A',h.M.A.New A' w.heap.size c t∧ba ρ (h.put A') { w with drawn:=d,heap:=w.heap.push (.cells c t) } :=by
 obtain⟨A',h1,h2,h3,h4⟩:=mr H (.cells c t) d;exact⟨A',⟨h1,h2,h3⟩,h4⟩
theorem eZ{ρ:Nat→Loc}{h:HS}{w:World}(H:ba ρ h w){g:Nat}{o0:Obj}(hg:h.M.A.blk g=some o0)(o:Obj):
  ∃A',A'.blk g=some o∧(∀k,k≠g→A'.blk k=h.M.A.blk k)∧ba ρ (h.put A') { w with heap:=w.heap.setIfInBounds g o } :=by
 have h3:=H.are g _ hg
 have hold:∀k,k≠g→(w.heap.setIfInBounds g o)[k]? =w.heap[k]? :=fun k hk=>by
  rw [Array.getElem?_setIfInBounds_ne (Ne.symm hk)]
 refine⟨aa.of fun k=>if k=g then some o else h.M.A.blk k,by simp [aa.of],fun k hk=>by simp [aa.of,hk],H.uW (w':= { w with heap:=w.heap.setIfInBounds g o }) rfl rfl rfl (fun k hk _=>hold k fun e=>by subst e;rw [hg]at hk;cases hk) (fun k o' hk=> ?_) fun k o' hk=> ?_⟩
 ·simp only [aa.of]at hk
  by_cases hkg:k=g
  ·subst hkg
   rw [if_pos rfl]at hk;show(w.heap.setIfInBounds k o)[k]? =some o'
   rw [←hk,Array.getElem?_setIfInBounds_self,if_pos (Array.getElem?_eq_some_iff.1 h3).1]
  ·rw [if_neg hkg]at hk
   show(w.heap.setIfInBounds g o)[k]? =some o'
   rw [hold k hkg];exact H.are k o' hk
 ·simp only [aa.of]at hk
  by_cases hkg:k=g
  ·subst hkg;exact .inl ⟨_,hg⟩
  ·rw [if_neg hkg]at hk;exact .inl ⟨_,hk⟩
def tv(P:Program)(h:HS)(t:TypeId)(K:SV→HS→Bool):Bool:=
 match ty P t with
 |none=>false
 |some s=>bif h.M.X.al t then h.M.D (∀g A',h.M.A.New A' g s.zero.cells t→K (.v (.pointer (some ⟨g,0,none⟩))) (h.put A')=true)
  else K (.ptr h.nx 0) (h.new (.cells (s.zero.cells.toList.map .v) 0 (t+1)))
def GF(h:HS)(t:TypeId)(x:SV)(K:SV→HS→Bool):Bool:=
 match x.cells with
 |none=>false
 |some cs=>bif h.M.X.al t then(match je cs with
    |some vs=>h.M.D (∀g A',h.M.A.New A' g vs.toArray t→K (.v (.pointer (some ⟨g,0,none⟩))) (h.put A')=true)
    |none=>false)
  else K (.ptr h.nx 0) (h.new (.cells cs 0 (t+1)))
def dT(ρ:Nat→Loc)(h:HS)(K:SV→HS→Bool)(v:Value)(w':World):Prop:=
 ∃z h' ρ',K z h'∧v=z.den ρ'∧z.lt ρ' h'.nx∧ba ρ' h' w'∧Ext ρ ρ' h.nx∧h.nx≤h'.nx∧h.M.le h'.M
theorem AT{P:Program}{h:HS}{t:TypeId}{K:SV→HS→Bool}(hk:tv P h t K){ρ:Nat→Loc}{w:World}(H:ba ρ h w):
  ∃v w',(Instr.alloc t true (.tuple #[])).run P w= .ok v w'∧dT ρ h K v w':=by
 unfold tv at hk
 split at hk
 ·exact absurd hk Bool.false_ne_true
 ·rename_i s hs
  cases hal:h.M.X.al t with
  |true=>
   rw [hal]at hk;have hk:=(h.M.X.hD _).1 hk;obtain⟨A',k1,k2⟩:=jP H s.zero.cells t w.drawn;refine⟨.pointer (some ⟨w.heap.size,0,none⟩), { w with heap:=w.heap.push (.cells s.zero.cells t) },?_,_,_,ρ,hk _ A' k1,rfl,trivial,k2,Ext.refl _ _,Nat.le_refl _,Mem.dH _ _⟩;simp [Instr.alloc,cQ w hs,newVar,newRow]
  |false=>
  rw [hal]at hk;simp only [cond_false]at hk
  refine⟨.pointer (some ⟨w.heap.size,0,none⟩), { w with heap:=w.heap.push (.cells s.zero.cells t) },?_,_,_,extend ρ h.nx ⟨w.heap.size,0,0⟩,hk,?_,Nat.lt_succ_self _,
   l5 H (fun x hx=>by obtain⟨y,_,rfl⟩:=List.mem_map.1 hx;trivial) _ (by simp [Function.comp_def,SV.den]) t,bd _ _ _,Nat.le_succ _,Mem.le_refl _⟩
  ·simp [Instr.alloc,cQ w hs,newVar,newRow]
  ·simp [SV.den,bA]
theorem GD{P:Program}{h:HS}{t:TypeId}{x:SV}{K:SV→HS→Bool}(hk:GF h t x K){ρ:Nat→Loc}{w:World}(H:ba ρ h w)(hx:x.lt ρ h.nx):
  ∃v w',(Instr.box t (x.den ρ)).run P w= .ok v w'∧dT ρ h K v w':=by
 unfold GF at hk
 split at hk
 ·exact absurd hk Bool.false_ne_true
 ·rename_i cs hcs
  have hc:=SV.ml (ρ:=ρ) hcs
  cases hal:h.M.X.al t with
  |true=>
   rw [hal]at hk;simp only [cond_true]at hk
   split at hk
   ·rename_i vs hvs
    have hk:=(h.M.X.hD _).1 hk;have hvc:(x.den ρ).cells=vs.toArray:=Array.toList_inj.1 (by rw [hc,eI ρ cs vs hvs]);obtain⟨A',k1,k2⟩:=jP H vs.toArray t w.drawn;refine⟨.pointer (some ⟨w.heap.size,0,none⟩), { w with heap:=w.heap.push (.cells vs.toArray t) },?_,_,_,ρ,hk _ A' k1,rfl,trivial,k2,Ext.refl _ _,Nat.le_refl _,Mem.dH _ _⟩;simp [Instr.box,newVar,newRow,hvc]
   ·exact absurd hk Bool.false_ne_true
  |false=>
  rw [hal]at hk;simp only [cond_false]at hk
  refine⟨.pointer (some ⟨w.heap.size,0,none⟩), { w with heap:=w.heap.push (.cells (x.den ρ).cells t) },?_,_,_,extend ρ h.nx ⟨w.heap.size,0,0⟩,hk,?_,Nat.lt_succ_self _,
   l5 H (SV.tl hcs hx) _ (Array.toList_inj.1 (by rw [hc])) t,bd _ _ _,Nat.le_succ _,Mem.le_refl _⟩
  ·simp [Instr.box,newVar,newRow]
  ·simp [SV.den,bA]
def gM(cs:List SV)(off:Nat)(vc:List SV):Option (List SV):=bif Nat.ble (off+vc.length) cs.length then some (ef cs off vc)else none
structure aa.Put(A A':aa)(g o:Nat)(vs:List Value):Prop where
 at_:∃c t fz c',A.blk g=some (.cells c t fz)∧A'.blk g=some (.cells c' t fz)∧c'.toList=c.toList.take o++vs++c.toList.drop (o+vs.length)
 other:∀k,k≠g→A'.blk k=A.blk k
def aa.Room(A:aa)(g o n:Nat):Prop:=∃c t fz,A.blk g=some (.cells c t fz)∧o+n≤c.size∧Fz c.size fz
theorem uV{P:Program}{ρ:Nat→Loc}{h:HS}{w:World}(H:ba ρ h w){g o:Nat}{vs:List Value}(hr:h.M.A.Room g o vs.length)(hone:∀v∈vs,v.oneCell'=true):
  ∃w' A',(storeCells ⟨g,o,none⟩ vs).run P w= .ok () w'∧h.M.A.Put A' g o vs∧ba ρ (h.put A') w':=by
 obtain⟨c,t,fz,hb,hle,hfz⟩:=hr;have h3:=H.are g _ hb;obtain⟨w',c',k1,k2,k3,k4⟩:=iB (P:=P) (o:=o) vs 0 w c h3 (by omega) hfz.not hone;simp only [Nat.add_zero]at k3;refine⟨w',aa.of fun k=>if k=g then some (.cells c' t fz)else h.M.A.blk k,k1,⟨⟨c,t,fz,c',hb,by simp [aa.of],k3⟩,fun k hk=>by simp [aa.of,hk]⟩,H.uW k4.os k4.out k4.tape (fun k hk _=>k4.other k fun e=>by subst e;rw [hb]at hk;cases hk) (fun k o hk=> ?_) fun k o hk=> ?_⟩
 ·simp only [aa.of]at hk
  by_cases hkg:k=g
  ·subst hkg;rw [if_pos rfl]at hk;rw [k2];exact hk
  ·rw [if_neg hkg]at hk;rw [k4.other k hkg];exact H.are k o hk
 ·simp only [aa.of]at hk
  by_cases hkg:k=g
  ·subst hkg;exact .inl ⟨_,hb⟩
  ·rw [if_neg hkg]at hk;exact .inl ⟨_,hk⟩
def Eu(s:STy)(h:HS)(g o:Nat)(vc:List SV)(K:SV→HS→Bool):Bool:=match je vc with
 |some vs=>bif Nat.beq vc.length s.size&&vc.all SV.one then h.M.D (h.M.A.Room g o vs.length∧∀A',h.M.A.Put A' g o vs→K (.v (.tuple #[])) (h.put A')=true)else false
 |none=>false
def vj(P:Program)(h:HS)(t:TypeId)(x v:SV)(K:SV→HS→Bool):Bool:=
 match ty P t,x,v.cells with
 |some s,.v (.pointer (some ⟨g,o,none⟩)),some vc=>Eu s h g o vc K
 |some s,.ptr b o,some vc=>match h.H.get b with
  |some (.cells cs es τ)=>bif Nat.beq vc.length s.size&&vc.all SV.one then(match gM cs o vc with
   |some cs'=>K (.v (.tuple #[])) { h with H:=h.H.set b (.cells cs' es τ) }
   |none=>false)else false
  |_=>false
 |_,_,_=>false
theorem pK{cs vc:List SV}{off i:Nat}(h:off+vc.length≤cs.length):(ef cs off vc)[i]? =if i<off then cs[i]? else if i<off+vc.length then vc[i-off]? else cs[i]? :=by
 unfold ef
 by_cases h1:i<off
 ·rw [if_pos h1,List.append_assoc,List.getElem?_append_left (by simp;omega),List.getElem?_take_of_lt h1]
 ·rw [if_neg h1]
  by_cases h2:i<off+vc.length
  ·rw [if_pos h2,List.append_assoc,List.getElem?_append_right (by simp;omega),List.getElem?_append_left (by simp;omega)]
   congr 1;simp;omega
  ·rw [if_neg h2,List.getElem?_append_right (by simp;omega),List.getElem?_drop]
   congr 1;simp;omega
theorem iP{P:Program}{ρ:Nat→Loc}{h:HS}{w:World}(H:ba ρ h w){b o es τ:Nat}{cs vc:List SV}(hb:h.H.get b=some (.cells cs es τ))(hlen:o+vc.length≤cs.length)
  (hone:∀x∈vc,x.one=true) (hlt:∀x∈vc,x.lt ρ h.nx):
  ∃w',(storeCells ⟨(ρ b).blk,(ρ b).off+o,none⟩ (vc.map (SV.den ρ))).run P w= .ok () w'∧ba ρ { h with H:=h.H.set b (.cells (ef cs o vc) es τ) } w':=by
 obtain⟨_,h2,c,t',fz,h3,h4,h5,h7,h6⟩:=H.blk b _ hb
 have hsz:cs= []∨(ρ b).off+cs.length≤c.size:=by
  cases hcs:cs.reverse with
  |nil=>exact .inl (List.reverse_eq_nil_iff.1 hcs)
  |cons y ys=>
   have:cs[cs.length-1]? =some y:=by
    have:cs=(y::ys).reverse:=by rw [←hcs,List.reverse_reverse]
    rw [this];simp
   have:=(Array.getElem?_eq_some_iff.1 (h4 _ y this)).1;have hne:cs.length≠0:=fun e=>by rw [List.length_eq_zero_iff.1 e]at hcs;cases hcs
   exact .inr (by omega)
 by_cases hv:vc= []
 ·subst hv
  refine⟨w,rfl,?_⟩;have:ef cs o []=cs:=by simp [ef]
  rw [this];exact H.write hb h2 ⟨c,t',fz,h3,h4,h5,h7,h6⟩ (fun _ _=>rfl) rfl rfl rfl
 ·have hvl:0<vc.length:=List.length_pos_iff.2 hv
  have hsz':(ρ b).off+cs.length≤c.size:=hsz.resolve_left (fun e=>by rw [e]at hlen;simp only [List.length_nil]at hlen;omega)
  obtain⟨w',c',k1,k2,k3,k4⟩:=iB (P:=P) (o:=(ρ b).off+o) (vc.map (SV.den ρ)) 0 w c h3 (by simp;omega) h6.1.not (fun v hv=>by
   obtain⟨x,hx,rfl⟩:=List.mem_map.1 hv;exact SV.one_den (hone x hx))
  refine⟨w',k1,H.write hb (B':= .cells (ef cs o vc) es τ) (fun x hx=> ?_) ⟨c',t',fz,k2,fun i x hi=> ?_,?_,?_,?_⟩ k4.other k4.os k4.out k4.tape⟩
  ·simp only [ef,List.mem_append]at hx
   rcases hx with(hx|hx)|hx
   ·exact h2 x (List.mem_of_mem_take hx)
   ·exact hlt x hx
   ·exact h2 x (List.mem_of_mem_drop hx)
  ·rw [pK hlen]at hi
   rw [←Array.getElem?_toList,k3];simp only [Nat.add_zero,List.length_map];have hcl:c.toList.length=c.size:=Array.length_toList
   by_cases h1:i<o
   ·rw [if_pos h1]at hi
    rw [List.append_assoc,List.getElem?_append_left (by simp;omega),List.getElem?_take_of_lt (by omega),Array.getElem?_toList];exact h4 i x hi
   ·rw [if_neg h1]at hi
    by_cases h2:i<o+vc.length
    ·rw [if_pos h2]at hi
     rw [List.append_assoc,List.getElem?_append_right (by simp;omega),List.getElem?_append_left (by simp;omega),List.getElem?_map];have:(ρ b).off+i-(List.take ((ρ b).off+o) c.toList).length=i-o:=by simp;omega
     rw [this,hi];rfl
    ·rw [if_neg h2]at hi
     rw [List.getElem?_append_right (by simp;omega),List.getElem?_drop,Array.getElem?_toList];have:(ρ b).off+o+vc.length+((ρ b).off+i-(List.take ((ρ b).off+o) c.toList++List.map (SV.den ρ) vc).length)=(ρ b).off+i:=by simp;omega
     rw [this];exact h4 i x hi
  ·have:c'.size=c.size:=by
     rw [←Array.length_toList,k3];simp;omega
   rw [this];exact h5
  ·have:(ef cs o vc).length=cs.length:=by simp [ef];omega
   rw [this];exact h7
  ·have:c'.size=c.size:=by
     rw [←Array.length_toList,k3];simp;omega
   have hov:(ef cs o vc).length=cs.length:=by simp [ef];omega
   rw [this,hov];exact h6
theorem zn{P:Program}{h:HS}{t:TypeId}{x v:SV}{K:SV→HS→Bool}(hk:vj P h t x v K){ρ:Nat→Loc}{w:World}(H:ba ρ h w)(hv:v.lt ρ h.nx):
  ∃w',(Instr.storeAt t (x.den ρ) (v.den ρ)).run P w= .ok () w'∧dT ρ h K (.tuple #[]) w':=by
 unfold vj at hk
 split at hk
 ·rename_i s g o vc hs hvc
  unfold Eu at hk
  split at hk
  ·rename_i vs hvs
   cases hc:Nat.beq vc.length s.size&&vc.all SV.one with
   |false=>rw [hc]at hk;exact absurd hk Bool.false_ne_true
   |true=>
    rw [hc]at hk;simp only [Bool.and_eq_true,List.all_eq_true]at hc;have hlen:=Nat.eq_of_beq_eq_true hc.1;simp only [cond_true]at hk;obtain⟨hroom,hk⟩:=(h.M.X.hD _).1 hk;have hd:=SV.ml (ρ:=ρ) hvc;have hp:=eI ρ vc vs hvs
    obtain⟨w',A',k1,k2,k3⟩:=uV (P:=P) H hroom (fun u hu=>by
     rw [←hp]at hu
     obtain⟨y,hy,rfl⟩:=List.mem_map.1 hu;exact SV.one_den (hc.2 y hy))
    have hsz:(v.den ρ).cells.size=s.size:=by rw [←Array.length_toList,hd,List.length_map,hlen]
    refine⟨w',?_,_,_,ρ,hk A' k2,rfl,trivial,k3,Ext.refl _ _,Nat.le_refl _,Mem.dH _ _⟩;simp only [Instr.storeAt,SV.den,Instr.sureAddr,Sem.run_bind,Sem.run_pure,Result.andThen_ok,storeVar,bK w hs,hsz,ne_eq,not_true_eq_false,if_false,hd,hp];exact k1
  ·exact absurd hk Bool.false_ne_true
 ·rename_i s b o vc hs hvc
  split at hk
  ·rename_i cs es τ hb
   cases hc:Nat.beq vc.length s.size&&vc.all SV.one with
   |false=>rw [hc]at hk;exact absurd hk Bool.false_ne_true
   |true=>
    rw [hc]at hk;simp only [Bool.and_eq_true,List.all_eq_true]at hc;have hlen:=Nat.eq_of_beq_eq_true hc.1;simp only [cond_true]at hk
    split at hk
    ·rename_i cs' hov
     unfold gM at hov
     cases hble:Nat.ble (o+vc.length) cs.length with
     |false=>rw [hble]at hov;cases hov
     |true=>
      rw [hble]at hov;injection hov with hov;subst hov
      have hd:=SV.ml (ρ:=ρ) hvc;obtain⟨w',k1,k2⟩:=iP (P:=P) H hb (Nat.le_of_ble_eq_true hble) hc.2 (SV.tl hvc hv);have hsz:(v.den ρ).cells.size=s.size:=by rw [←Array.length_toList,hd,List.length_map,hlen]
      refine⟨w',?_,_,_,ρ,hk,rfl,trivial,k2,Ext.refl _ _,Nat.le_refl _,Mem.le_refl _⟩;simp only [Instr.storeAt,SV.den,Instr.sureAddr,Sem.run_bind,Sem.run_pure,Result.andThen_ok,storeVar,bK w hs,hsz,ne_eq,not_true_eq_false,if_false,hd];exact k1
    ·exact absurd hk Bool.false_ne_true
  ·exact absurd hk Bool.false_ne_true
 ·exact absurd hk Bool.false_ne_true
def du(zc:List SV):Nat→List SV
 |0=> []
 |n+1=>zc++du zc n
theorem qv(zc:List SV):∀n,(du zc n).length=n*zc.length
 |0=>by simp [du]
 |n+1=>by simp [du,qv zc n,Nat.add_mul];omega
theorem kf{α:Type} [Inhabited α](z:Array α)(n:Nat):((Array.range (n*z.size)).map (z[· %z.size]!)).toList=(List.replicate n z.toList).flatten:=by
 apply List.ext_getElem?;intro i;simp only [Array.toList_map,Array.toList_range,List.getElem?_map]
 by_cases hi:i<n*z.size
 ·have hz:0<z.size:=by
    rcases Nat.eq_zero_or_pos z.size with h|h
    ·rw [h]at hi;simp at hi
    ·exact h
  rw [List.getElem?_range hi]
  have key:∀(n i:Nat),i<n*z.size→((List.replicate n z.toList).flatten)[i]? =some (z[i%z.size]!):=by
   intro n
   induction n with
   |zero=>intro i h;simp at h
   |succ n ih=>
    intro i h;rw [List.replicate_succ,List.flatten_cons]
    by_cases hlt:i<z.size
    ·rw [List.getElem?_append_left (by simpa using hlt),Nat.mod_eq_of_lt hlt]
     simp [hlt]
    ·rw [List.getElem?_append_right (by simp;omega),Array.length_toList]
     have:i-z.size<n*z.size:=by rw [Nat.add_mul]at h;omega
     rw [ih _ this];congr 2;exact(Nat.mod_eq_sub_mod (by omega)).symm
  rw [key n i hi];rfl
 ·rw [List.getElem?_eq_none (by simpa using hi),List.getElem?_eq_none (by
    simp only [List.length_flatten,List.map_replicate,List.sum_replicate_nat,Array.length_toList];omega)]
  rfl
theorem kc(ρ:Nat→Loc)(z:Array Value):∀n,(du (z.toList.map .v) n).map (SV.den ρ)=(List.replicate n z.toList).flatten
 |0=>rfl
 |n+1=>by
  rw [du,List.map_append,kc ρ z n,List.replicate_succ,List.flatten_cons];simp [Function.comp_def,SV.den]
theorem kS{ρ:Nat→Loc}{m:Nat}(z:Array Value):∀n,∀y∈du (z.toList.map .v) n,y.lt ρ m
 |0,y,h=>by simp [du]at h
 |n+1,y,h=>by
  simp only [du,List.mem_append]at h;rcases h with h|h
  ·obtain⟨x,_,rfl⟩:=List.mem_map.1 h;trivial
  ·exact kS z n y h
def makeA(h:HS)(e:TypeId)(se:STy)(li ci:Int)(K:SV→HS→Bool):Bool:=
 h.M.D (0≤li∧li≤ci∧ci≤9223372036854775807∧se.bytes*ci.toNat≤281474976710656∧se.zero.cells.size=se.size∧
  ∀(g:Nat) (A':aa) (c:Array Value),c.toList=(List.replicate ci.toNat se.zero.cells.toList).flatten→h.M.A.New A' g c e→K (.v (.slice (some ⟨g,0,none⟩) li.toNat ci.toNat)) (h.put A')=true)
def yd(P:Program)(h:HS)(t:TypeId)(l c:SV)(K:SV→HS→Bool):Bool:=
 match ty P t,l.int?,c.int? with
 |some s,some (_,li),some (_,ci)=>match s.und with
  | .slice e=>match ty P e with
    |some se=>bif h.M.X.op then makeA h e se li ci K else
     let n:=ci.toNat
     bif decide (0≤li)&&decide (li≤ci)&&decide (ci≤9223372036854775807)&&Nat.ble (se.bytes*n) 281474976710656&&Nat.beq se.zero.cells.size se.size then
      K (.slc h.nx 0 li.toNat (.lit n)) (h.new (.cells (du (se.zero.cells.toList.map .v) n) 0 (e+1)))
     else false
    |none=>false
  |_=>false
 |_,_,_=>false
theorem wrap_i64{n:Int}(h0:0≤n)(h1:n≤9223372036854775807):IntKind.i64.wrap n=n:=by
 simp only [IntKind.wrap,IntKind.bits,IntKind.signed];simp;omega
theorem Ds{P:Program}{h:HS}{t:TypeId}{l c:SV}{K:SV→HS→Bool}(hk:yd P h t l c K){ρ:Nat→Loc}{w:World}(H:ba ρ h w):
  ∃v w',(Instr.makeSlice t (l.den ρ) (c.den ρ)).run P w= .ok v w'∧dT ρ h K v w':=by
 unfold yd at hk
 split at hk
 ·rename_i s k li k' ci hs hl hc
  split at hk
  ·rename_i e hd
   split at hk
   ·rename_i se hse
    cases hop:h.M.X.op with
    |true=>
     rw [hop]at hk;simp only [cond_true]at hk;obtain⟨h0,h1,h2,h3,h4,hk⟩:=(h.M.X.hD _).1 hk;obtain⟨i,hi,hi1,hi2,hi3⟩:=gC w hse
     have hbytes:¬((se.bytes:Int)*ci>2^48):=by
      have:((se.bytes*ci.toNat:Nat):Int)=(se.bytes:Int)*ci:=by
       rw [Int.natCast_mul,Int.toNat_of_nonneg (by omega)]
      have h5:(2^48:Int)=281474976710656:=by decide
      rw [h5];omega
     have hbytesl:¬((se.bytes:Int)*li>2^48):=by
      have:(se.bytes:Int)*li≤(se.bytes:Int)*ci:=Int.mul_le_mul_of_nonneg_left h1 (Int.natCast_nonneg _);omega
     have hcells:((Array.range (ci.toNat*se.size)).map ((if ci.toNat*se.size=0 then #[]else se.zero.cells)[· %(if ci.toNat*se.size=0 then #[]else se.zero.cells).size]!)).toList=(List.replicate ci.toNat se.zero.cells.toList).flatten:=by
      rw [←kf,h4]
      by_cases hz:ci.toNat*se.size=0
      ·simp [hz]
      ·rw [if_neg hz];simp [h4]
     obtain⟨A',k1,k2⟩:=jP H ((Array.range (ci.toNat*se.size)).map ((if ci.toNat*se.size=0 then #[]else se.zero.cells)[· %(if ci.toNat*se.size=0 then #[]else se.zero.cells).size]!)) e w.drawn;refine⟨.slice (some ⟨w.heap.size,0,none⟩) li.toNat ci.toNat,_,?_,_,_,ρ,hk _ A' _ hcells k1,rfl,trivial,k2,Ext.refl _ _,Nat.le_refl _,Mem.dH _ _⟩;simp only [Instr.makeSlice,Sem.run_bind,aA w hs,Result.andThen_ok,hd,SV.bI hl,SV.bI hc,asInt,asIntOf,Sem.run_pure,hi,hi2,wrap_i64 h0 (by omega),wrap_i64 (show 0≤ci by omega) h2]
     rw [if_neg (by
      simp only [Bool.or_eq_true,decide_eq_true_eq,not_or]
      refine⟨⟨⟨by omega,by simpa using hbytes⟩,by omega⟩,by omega⟩)]
     simp only [Sem.run_bind,run_askRoom,Result.andThen_ok,bK w hse]
     by_cases hz:ci.toNat*se.size=0
     ·simp only [hz,if_true,Sem.run_bind,Sem.run_pure,Result.andThen_ok,newRow,run_newObj]
     ·simp only [hz,if_false,Sem.run_bind,Sem.run_pure,Result.andThen_ok,cQ w hse,newRow,run_newObj]
    |false=>
    rw [hop]at hk;simp only [cond_false]at hk
    cases hb:decide (0≤li)&&decide (li≤ci)&&decide (ci≤9223372036854775807)&&Nat.ble (se.bytes*ci.toNat) 281474976710656&&Nat.beq se.zero.cells.size se.size with
    |false=>rw [hb]at hk;exact absurd hk Bool.false_ne_true
    |true=>
     rw [hb]at hk;simp only [Bool.and_eq_true,decide_eq_true_eq]at hb;obtain⟨⟨⟨⟨h0,h1⟩,h2⟩,h3⟩,h4⟩:=hb;have h3:=Nat.le_of_ble_eq_true h3;have h4:=Nat.eq_of_beq_eq_true h4;obtain⟨i,hi,hi1,hi2,hi3⟩:=gC w hse
     have hbytes:¬((se.bytes:Int)*ci>2^48):=by
      have:((se.bytes*ci.toNat:Nat):Int)=(se.bytes:Int)*ci:=by
       rw [Int.natCast_mul,Int.toNat_of_nonneg (by omega)]
      have h5:(2^48:Int)=281474976710656:=by decide
      rw [h5];omega
     have hbytesl:¬((se.bytes:Int)*li>2^48):=by
      have:(se.bytes:Int)*li≤(se.bytes:Int)*ci:=Int.mul_le_mul_of_nonneg_left h1 (Int.natCast_nonneg _);omega
     have hcells:((Array.range (ci.toNat*se.size)).map ((if ci.toNat*se.size=0 then #[]else se.zero.cells)[· %(if ci.toNat*se.size=0 then #[]else se.zero.cells).size]!))=((du (se.zero.cells.toList.map .v) ci.toNat).map (SV.den ρ)).toArray:=by
      apply Array.toList_inj.1;rw [kc,←kf,h4]
      by_cases hz:ci.toNat*se.size=0
      ·simp [hz]
      ·rw [if_neg hz];simp [h4]
     refine⟨.slice (some ⟨w.heap.size,0,none⟩) li.toNat ci.toNat, { w with heap:=w.heap.push (.cells ((du (se.zero.cells.toList.map .v) ci.toNat).map (SV.den ρ)).toArray e) },?_,_,_,extend ρ h.nx ⟨w.heap.size,0,0⟩,hk,?_,⟨Nat.lt_succ_self _,trivial,?_⟩,
      l5 H (kS _ _) _ rfl e,bd _ _ _,Nat.le_succ _,Mem.le_refl _⟩
     ·simp only [Instr.makeSlice,Sem.run_bind,aA w hs,Result.andThen_ok,hd,SV.bI hl,SV.bI hc,asInt,asIntOf,Sem.run_pure,hi,hi2,wrap_i64 h0 (by omega),wrap_i64 (show 0≤ci by omega) h2]
      rw [if_neg (by
       simp only [Bool.or_eq_true,decide_eq_true_eq,not_or]
       refine⟨⟨⟨by omega,by simpa using hbytes⟩,by omega⟩,by omega⟩)]
      simp only [Sem.run_bind,run_askRoom,Result.andThen_ok,bK w hse]
      by_cases hz:ci.toNat*se.size=0
      ·simp only [hz,if_true]at hcells
       simp only [hz,if_true,Sem.run_bind,Sem.run_pure,Result.andThen_ok,newRow,run_newObj,hcells]
      ·simp only [hz,if_false]at hcells
       simp only [hz,if_false,Sem.run_bind,Sem.run_pure,Result.andThen_ok,cQ w hse,newRow,run_newObj,hcells]
     ·simp [SV.den,bA,df.den]
     ·simp only [df.den];omega
   ·exact absurd hk Bool.false_ne_true
  ·exact absurd hk Bool.false_ne_true
 ·exact absurd hk Bool.false_ne_true
def kz(l:List UInt8):List SV:=l.map fun b=> .v (.int .u8 b.toNat)
def eG(h:HS)(size n:Nat)(x:SV):Option (List SV):=
 match x with
 | .slc b o _ _=>match h.H.get b with
   |some (.cells cs _ _)=>takeN (n*size) (cs.drop o)
   |_=>none
 | .v (.slice none _ _)=>bif Nat.beq n 0 then some []else none
 |x=>match x.str? with
  |some l=>bif Nat.beq size 1 then some (kz (l.take n))else none
  |none=>none
def tR(x:SV):Option Nat:=
 match x with
 | .slc _ _ l _=>some l
 | .v (.slice _ l _)=>some l
 |x=>x.str?.map List.length
theorem si{P:Program}{x:SV}{n:Nat}(h:tR x=some n)(ρ:Nat→Loc)(w:World):(Builtin.lenOf (x.den ρ)).run P w= .ok n w:=by
 unfold tR at h
 split at h
 ·injection h with h;subst h;rfl
 ·injection h with h;subst h;rfl
 ·simp only [Option.map_eq_some_iff]at h
  obtain⟨l,hl,rfl⟩:=h;rw [SV.bW hl];have hsz:(⟨l.toArray⟩:ByteArray).size=l.length:=by show l.toArray.size=_;simp
  simp [Builtin.lenOf,hsz]
theorem jX{P:Program}{h:HS}{size n:Nat}{x:SV}{cs:List SV}(hx:eG h size n x=some cs){ρ:Nat→Loc}{w:World}(H:ba ρ h w):
  (Builtin.firstCells size n (x.den ρ)).run P w= .ok (cs.map (SV.den ρ)).toArray w∧cs.length=n*size∨(∃l,x.str? =some l∧cs=kz (l.take n)∧size=1∧
    (Builtin.firstCells size n (x.den ρ)).run P w= .ok (cs.map (SV.den ρ)).toArray w):=by
 unfold eG at hx
 split at hx
 ·rename_i b o l c
  left
  split at hx
  ·rename_i cs0 es hb
   obtain⟨_,h2,c',t',fz,h3,h4,h5,h7,h6⟩:=H.blk b _ hb;obtain⟨k1,k2⟩:=gA hx;refine⟨?_,k1⟩
   have:=ep (P:=P) (o:=(ρ b).off+o) h3 (cs.map (SV.den ρ)) 0 #[] (fun j v hj=>by
    rw [List.getElem?_map]at hj
    cases hy:cs[j]? with
    |none=>rw [hy]at hj;cases hj
    |some y=>
     rw [hy]at hj;injection hj with hj;subst hj
     have:=k2 j y hy;rw [List.getElem?_drop]at this;rw [Nat.zero_add,Nat.add_assoc]
     exact h4 (o+j) y this)
   rw [List.length_map,k1]at this;simp only [Builtin.firstCells,SV.den,loadCells];rw [this];simp
  ·cases hx
 ·rename_i l c
  left
  cases hn:Nat.beq n 0 with
  |false=>rw [hn]at hx;cases hx
  |true=>
   rw [hn]at hx;injection hx with hx;subst hx
   have:=Nat.eq_of_beq_eq_true hn;subst this;exact⟨rfl,by simp⟩
 ·right
  split at hx
  ·rename_i l hl
   cases h1:Nat.beq size 1 with
   |false=>rw [h1]at hx;cases hx
   |true=>
    rw [h1]at hx;injection hx with hx;subst hx
    refine⟨l,hl,rfl,Nat.eq_of_beq_eq_true h1,?_⟩;rw [SV.bW hl];simp only [Builtin.firstCells,ky,List.drop_zero,Nat.sub_zero,Sem.run_pure];congr 1;apply Array.toList_inj.1;simp [kz,SV.den,Function.comp_def]
  ·cases hx
theorem kN{h:HS}{size n:Nat}{x:SV}{cs:List SV}(hx:eG h size n x=some cs){ρ:Nat→Loc}{w:World}(H:ba ρ h w):∀y∈cs,y.lt ρ h.nx:=by
 unfold eG at hx
 split at hx
 ·split at hx
  ·rename_i cs0 es hb
   obtain⟨k1,k2⟩:=gA hx;intro y hy;obtain⟨j,hj⟩:=List.mem_iff_getElem?.1 hy;exact(H.blk _ _ hb).2.1 y (List.mem_of_mem_drop (List.mem_of_getElem? (k2 j y hj)))
  ·cases hx
 ·cases hn:Nat.beq n 0 with
  |false=>rw [hn]at hx;cases hx
  |true=>rw [hn]at hx;injection hx with hx;subst hx;simp
 ·split at hx
  ·cases h1:Nat.beq size 1 with
   |false=>rw [h1]at hx;cases hx
   |true=>
    rw [h1]at hx;injection hx with hx;subst hx
    intro y hy;obtain⟨b,_,rfl⟩:=List.mem_map.1 hy;trivial
  ·cases hx
theorem DK(m:Nat):∀(r c:Nat),c<m→Builtin.growBy m r c≤m+(m+768)/4:=by
 intro r
 induction r with
 |zero=>intro c h;simp only [Builtin.growBy];omega
 |succ r ih=>
  intro c h;simp only [Builtin.growBy];rw [if_neg (by omega)]
  by_cases h2:c+(c+768)/4<m
  ·exact ih _ h2
  ·cases r with
   |zero=>simp only [Builtin.growBy];omega
   |succ r=>simp only [Builtin.growBy];rw [if_pos (by omega)];omega
theorem gD{m c:Nat}(h:c<m):Builtin.nextslicecap m c≤2*m+768:=by
 unfold Builtin.nextslicecap
 split
 ·omega
 ·split
  ·omega
  ·have:=DK m 4 c h;omega
theorem FX{h:HS}{e:TypeId}{se:STy}{τ:Nat}(hτ:τ=0∨(τ=e+1∧se.size≠0))(hz:se.zero.cells.size=se.size){ρ:Nat→Loc}{w:World}(H:ba ρ h w){cs:List SV}(hlt:∀x∈cs,x.lt ρ h.nx)
  {need newCap:Nat} (hcs:cs.length=need*se.size) (hcap:need≤newCap):
  ba (extend ρ h.nx ⟨w.heap.size,0,newCap⟩) (h.new (.cells cs se.size τ)) { w with heap:=w.heap.push (.cells ((cs.map (SV.den ρ)).toArray++Builtin.zeroCells se.zero.cells (newCap-need)) e) } :=by
 refine H.alloc (o:= .cells ((cs.map (SV.den ρ)).toArray++Builtin.zeroCells se.zero.cells (newCap-need)) e) (B:= .cells cs se.size τ) (L:=⟨w.heap.size,0,newCap⟩) rfl hlt fun w' hw'=>⟨_,e,(0,0),hw',fun i x hi=> ?_,?_,.inr ?_,⟨.inl rfl,hτ.imp id fun h=>⟨h.1,rfl,fun h0=>absurd h0 h.2⟩⟩⟩
 ·have hlt':=(List.getElem?_eq_some_iff.1 hi).1
  rw [Nat.zero_add,Array.getElem?_append_left (by simpa using hlt')];simp [hi]
 ·simp only [Array.size_append,Builtin.zeroCells,Array.size_map,Array.size_range,List.size_toArray,List.length_map,hcs,hz]
  rw [←Nat.add_mul];have:need+(newCap-need)=newCap:=by omega
  rw [this];omega
 ·rw [hcs];exact Nat.mul_le_mul_right _ hcap
def tyG(s e:Nat):Nat:=bif Nat.beq s 0 then 0 else e+1
theorem qH(s e:Nat):tyG s e=0∨(tyG s e=e+1∧s≠0):=by
 unfold tyG
 cases hb:Nat.beq s 0 with
 |true=>exact .inl rfl
 |false=>exact .inr ⟨rfl,fun e=>by rw [e]at hb;cases hb⟩
def ze(τ o s e:Nat):Nat:=bif Nat.beq τ (e+1)&&Nat.beq o 0 then tyG s e else 0
theorem Eo(τ o s e:Nat):ze τ o s e=0∨(ze τ o s e=e+1∧s≠0):=by
 unfold ze
 cases Nat.beq τ (e+1)&&Nat.beq o 0 with
 |true=>exact qH s e
 |false=>exact .inl rfl
theorem Ep{τ o s e t off n len n' len':Nat}(h:Whole τ s off n len t):Whole (ze τ o s e) s (off+o) n' len' t:=by
 unfold ze
 cases hb:Nat.beq τ (e+1)&&Nat.beq o 0 with
 |false=>exact .inl rfl
 |true=>
  simp only [Bool.and_eq_true]at hb;have h1:=Nat.eq_of_beq_eq_true hb.1;have h2:=Nat.eq_of_beq_eq_true hb.2;rcases h with h|⟨h,h3,_⟩
  ·omega
  ·rcases qH s e with h4|⟨h4,h5⟩
   ·exact .inl h4
   ·right
    refine⟨?_,by omega,fun h0=>absurd h0 h5⟩;show tyG s e=t+1
    omega
def qn(h:HS)(τ:Nat)(se:STy)(cs:List SV)(need:Nat)(K:SV→HS→Bool):Bool:=
 bif Nat.beq se.zero.cells.size se.size&&Nat.beq cs.length (need*se.size)&&Nat.ble ((2*need+768)*se.bytes) 281474976710656 then
  K (.slc h.nx 0 need (.sub h.nx 0)) (h.new (.cells cs se.size τ))
 else false
def wS(P:Program)(h:HS)(ts:List TypeId)(s x:SV)(K:SV→HS→Bool):Bool:=
 match ts with
 | [st,xt]=>match ty P st,ty P xt with
   |some ss,some sx=>match ss.und,(match sx.und with| .int _=>true|_=>false)with
    | .slice e,false=>match ty P e,tR x with
      |some se,some n=>match eG h se.size n x with
       |none=>false
       |some nc=>bif !(Nat.beq nc.length (n*se.size))|| !(nc.all SV.one)then false else
        match s with
        | .v (.slice none 0 0)=>bif Nat.beq n 0 then K (.v (.slice none 0 0)) h else qn h (tyG se.size e) se nc n K
        | .slc b o l (.lit cap)=>
          bif Nat.ble (l+n) cap then
           (match h.H.get b with
           |some (.cells cs es τ)=>match gM cs (o+l*se.size) nc with
            |some cs'=>K (.slc b o (l+n) (.lit cap)) { h with H:=h.H.set b (.cells cs' es τ) }
            |none=>false
           |_=>false)
          else(match eG h se.size l s with
           |some old=>qn h (tyG se.size e) se (old++nc) (l+n) K
           |none=>false)
        | .slc b o l (.sub b' d)=>
          bif !(Nat.beq b b')|| !(Nat.beq o (d*se.size))||Nat.beq se.size 0 then false else
          bif Nat.beq n 0 then K (.slc b o l (.sub b' d)) h else
          match h.H.get b with
          |some (.cells cs es τ)=>
           bif !(Nat.beq es se.size)then false else
           bif Nat.ble ((d+l+n)*se.size) cs.length then
            (match gM cs (o+l*se.size) nc with
            |some cs'=>K (.slc b o (l+n) (.sub b' d)) { h with H:=h.H.set b (.cells cs' es τ) }
            |none=>false)
           else bif Nat.beq cs.length ((d+l)*se.size)then
            qn { h with H:=h.H.del b } (ze τ o se.size e) se (cs.drop o++nc) (l+n) K
           else false
          |_=>false
        |_=>false
      |_,_=>false
    |_,_=>false
   |_,_=>false
 |_=>false
end
end Go.Sx
