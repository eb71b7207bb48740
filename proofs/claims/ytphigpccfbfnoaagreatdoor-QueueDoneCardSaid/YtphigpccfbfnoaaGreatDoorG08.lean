/-
  Parts of the proof: SxJ
-/
import Derived.Test.YtphigpccfbfnoaaGreatDoorG07
set_option maxRecDepth 100000
set_option maxHeartbeats 0
namespace Go.Sx
noncomputable section
def copyV(P:Program)(h:HS)(ts:List TypeId)(d x:SV)(K:SV→HS→Bool):Bool:=
 match ts with
 |dt::_=>match ty P dt with
  |some sd=>match sd.und with
   | .slice e=>match ty P e,tR x with
     |some se,some m=>match d with
      | .slc b o l _=>match eG h se.size (Nat.min m l) x,h.H.get b with
        |some nc,some (.cells cs es τ)=>bif nc.all SV.one then(match gM cs o nc with
         |some cs'=>K (.v (.int .i64 (Nat.min m l))) { h with H:=h.H.set b (.cells cs' es τ) }
         |none=>false)else false
        |_,_=>false
      | .v (.slice none 0 0)=>K (.v (.int .i64 0)) h
      |_=>false
     |_,_=>false
   |_=>false
  |none=>false
 | []=>false
theorem DY{P:Program}{h:HS}{ts:List TypeId}{d x:SV}{K:SV→HS→Bool}(hk:copyV P h ts d x K){ρ:Nat→Loc}{w:World}(H:ba ρ h w)(u:TypeId):
  ∃v w',(Builtin.copy_ ts.toArray u #[d.den ρ,x.den ρ]).run P w= .ok v w'∧dT ρ h K v w':=by
 unfold copyV at hk
 split at hk
 ·rename_i dt ts'
  split at hk
  ·rename_i sd hsd
   split at hk
   ·rename_i e hd
    split at hk
    ·rename_i se m hse hm
     have hlx:=si (P:=P) hm ρ w;have h0:(dt::ts').toArray[0]? =some dt:=by simp
     split at hk
     ·rename_i b o l c
      split at hk
      ·rename_i nc cs es τ hnc hb
       cases hone:nc.all SV.one with
       |false=>rw [hone]at hk;exact absurd hk Bool.false_ne_true
       |true=>
        rw [hone]at hk;simp only [cond_true]at hk
        split at hk
        ·rename_i cs' hov
         unfold gM at hov
         cases hble:Nat.ble (o+nc.length) cs.length with
         |false=>rw [hble]at hov;cases hov
         |true=>
          rw [hble]at hov;injection hov with hov;subst hov
          obtain⟨w',k1,k2⟩:=iP (P:=P) H hb (Nat.le_of_ble_eq_true hble) (List.all_eq_true.1 hone) (kN hnc H)
          have hfc:(Builtin.firstCells se.size (Nat.min m l) (x.den ρ)).run P w= .ok (nc.map (SV.den ρ)).toArray w:=by
           rcases jX (P:=P) hnc H with⟨h,_⟩|⟨_,_,_,_,h⟩<;>exact h
          refine⟨goInt (Nat.min m l),w',?_,_,_,ρ,hk,rfl,trivial,k2,Ext.refl _ _,Nat.le_refl _,Mem.le_refl _⟩;simp only [Builtin.copy_,h0,List.getElem?_toArray,List.getElem?_cons_zero,List.getElem?_cons_succ,Sem.run_bind,aA w hsd,hd,Result.andThen_ok,hlx,bK w hse,SV.den,hfc,k1,Sem.run_pure]
        ·exact absurd hk Bool.false_ne_true
      ·exact absurd hk Bool.false_ne_true
     ·refine⟨goInt 0,w,?_,_,_,ρ,hk,rfl,trivial,H,Ext.refl _ _,Nat.le_refl _,Mem.le_refl _⟩
      have hz:∃c,(Builtin.firstCells se.size 0 (x.den ρ)).run P w= .ok c w:=by
       unfold tR at hm
       split at hm
       ·exact⟨_,by simp only [Builtin.firstCells,SV.den,Nat.zero_mul,loadCells,loadCellsFrom];rfl⟩
       ·rename_i a l' c'
        cases a with
        |none=>exact⟨_,rfl⟩
        |some a=>exact⟨_,by simp only [Builtin.firstCells,SV.den,Nat.zero_mul,loadCells,loadCellsFrom];rfl⟩
       ·simp only [Option.map_eq_some_iff]at hm
        obtain⟨l',hl',_⟩:=hm;rw [SV.bW hl'];exact⟨_,rfl⟩
      obtain⟨c,hc⟩:=hz;simp only [Builtin.copy_,h0,List.getElem?_toArray,List.getElem?_cons_zero,List.getElem?_cons_succ,Sem.run_bind,aA w hsd,hd,Result.andThen_ok,hlx,bK w hse,SV.den,Nat.min_zero,hc,Sem.run_pure];rfl
     ·exact absurd hk Bool.false_ne_true
    ·exact absurd hk Bool.false_ne_true
   ·exact absurd hk Bool.false_ne_true
  ·exact absurd hk Bool.false_ne_true
 ·exact absurd hk Bool.false_ne_true
def sq(d:TypeDesc)(x y:SV):Option Bool:=
 match d with
 | .int _=>match x.int?,y.int? with
   |some (k,a),some (k',b)=>bif kEq k k' then some (decide (a=b))else none
   |_,_=>none
 | .string=>match x.str?,y.str? with
   |some l,some m=>some (eW l m)
   |_,_=>none
 | .bool=>match x,y with
   | .v (.bool a),.v (.bool b)=>some (a==b)
   |_,_=>none
 |_=>none
theorem uL{d:TypeDesc}{x y:SV}{r:Bool}(h:sq d x y=some r)(ρ:Nat→Loc):Instr.sameNow d (x.den ρ) (y.den ρ)=some r:=by
 unfold sq at h
 split at h
 ·split at h
  ·rename_i k a k' b hx hy
   cases hk:kEq k k' with
   |false=>rw [hk]at h;cases h
   |true=>
    rw [hk]at h;injection h with h;subst h
    have:=iX.1 hk;subst this;rw [SV.bI hx,SV.bI hy];simp only [Instr.sameNow,if_true];rfl
  ·cases h
 ·split at h
  ·rename_i l m hl hm
   injection h with h;subst h
   rw [SV.bW hl,SV.bW hm];simp only [Instr.sameNow,cP];rw [beq_toListBytes,ByteArray.toList_eq,ByteArray.toList_eq]
  ·cases h
 ·split at h
  ·injection h with h;subst h;rfl
  ·cases h
 ·cases h
def qp(d:TypeDesc)(k:SV):List (SV×SV×Nat)→Nat→Option (Option (Nat×SV))
 | [],_=>some none
 |e::es,i=>match sq d k e.1 with
  |some true=>some (some (i,e.2.1))
  |some false=>qp d k es (i+1)
  |none=>none
theorem pO{d:TypeDesc}{k:SV}{ρ:Nat→Loc} :∀(es:List (SV×SV×Nat)) (i:Nat) (r:Option (Nat×SV)),qp d k es i=some r→
  Instr.findNow d (k.den ρ) (es.map (aY ρ)) i=some (r.map fun(j,x)=>(j,x.den ρ))∧(∀j x,r=some (j,x)→i≤j∧∃e,es[j-i]? =some e∧e.2.1=x∧sq d k e.1=some true):=by
 intro es
 induction es with
 |nil=>intro i r h;simp only [qp,Option.some.injEq]at h;subst h;exact⟨rfl,fun _ _ h=>by cases h⟩
 |cons e es ih=>
  intro i r h;simp only [qp]at h
  split at h
  ·rename_i he
   injection h with h;subst h
   refine⟨by simp [Instr.findNow,aY,uL he ρ],fun j x hj=> ?_⟩;injection hj with hj;injection hj with h1 h2;subst h1;subst h2
   exact⟨Nat.le_refl _,e,by simp,rfl,he⟩
  ·rename_i he
   obtain⟨k1,k2⟩:=ih _ _ h;refine⟨by simp only [List.map_cons,Instr.findNow];rw [show(aY ρ e).key=e.1.den ρ from rfl,uL he ρ];exact k1,fun j x hj=> ?_⟩;obtain⟨h1,e',h2,h3,h4⟩:=k2 j x hj;refine⟨by omega,e',?_,h3,h4⟩;rw [show j-i=(j-(i+1))+1 by omega];simpa using h2
  ·cases h
theorem eK{P:Program}{t:TypeId}{s:STy}(hs:ty P t=some s){k:SV}{es:List (SV×SV×Nat)}{r:Option (Nat×SV)}(h:qp s.und k es 0=some r)(ρ:Nat→Loc)(w:World):
  (Instr.findKey t (k.den ρ) (es.map (aY ρ))).run P w= .ok (r.map fun(j,x)=>(j,x.den ρ)) w:=by
 simp only [Instr.findKey,Sem.run_bind,aA w hs,Result.andThen_ok,(pO (ρ:=ρ) es 0 r h).1,Sem.run_pure]
def Ac(P:Program)(h:HS)(t:TypeId)(x k:SV)(ok:Bool):Option SV:=
 match ty P t with
 |none=>none
 |some s=>match s.und with
  | .map kt et=>match ty P kt,ty P et with
    |some sk,some se=>bif !(plainKey sk.und)then none else
     let out (r:SV×Bool):SV:=bif ok then .tup [r.1,.v (.bool r.2)]else r.1
     match x with
     | .v (.map none)=>some (out (w9 se.zero,false))
     | .mp b=>match h.H.get b with
       |some (.map es _)=>match qp sk.und k es 0 with
        |some (some (_,v))=>some (out (v,true))
        |some none=>some (out (w9 se.zero,false))
        |none=>none
       |_=>none
     |_=>none
    |_,_=>none
  |_=>none
theorem Ab{P:Program}{h:HS}{t:TypeId}{x k z:SV}{ok:Bool}(hz:Ac P h t x k ok=some z){ρ:Nat→Loc}{w:World}(H:ba ρ h w):
  (Instr.lookup t (x.den ρ) (k.den ρ) ok).run P w= .ok (z.den ρ) w∧z.lt ρ h.nx:=by
 unfold Ac at hz
 split at hz
 ·cases hz
 ·rename_i s hs
  split at hz
  ·rename_i kt et hd
   split at hz
   ·rename_i sk se hsk hse
    cases hp:plainKey sk.und with
    |false=>rw [hp]at hz;simp at hz
    |true=>
     rw [hp]at hz;simp only [Bool.not_true,cond_false]at hz;have hcheck:∀b v,(Instr.checkKey b 10000 kt v).run P w= .ok () w:=fun b v=>ej hsk hp b 9999 v w
     split at hz
     ·injection hz with hz;subst hz
      simp only [Instr.lookup,Sem.run_bind,aA w hs,hd,Result.andThen_ok,SV.den,Sem.run_pure,hcheck];have:=eK (P:=P) hsk (k:=k) (es:= []) (r:=none) rfl ρ w;simp only [List.map_nil,Option.map_none]at this;rw [this];simp only [Result.andThen_ok,Sem.run_bind,cQ w hse,Sem.run_pure]
      cases ok
      ·exact⟨by simp [jr],lR _ _ _⟩
      ·exact⟨by simp [SV.den,SV.iO,jr],lR _ _ _,trivial,trivial⟩
     ·rename_i b
      split at hz
      ·rename_i es clock hb
       obtain⟨_,h2,h3⟩:=H.blk b _ hb;have h3:w.heap[(ρ b).blk]? =some (.map (es.map (aY ρ)).toArray clock):=h3;have hget:(getObj (ρ b).blk).run P w= .ok (.map (es.map (aY ρ)).toArray clock) w:=by simp [getObj,Sem.run,h3]
       split at hz
       ·rename_i j v hf
        injection hz with hz;subst hz
        simp only [Instr.lookup,Sem.run_bind,aA w hs,hd,Result.andThen_ok,SV.den,hget,Sem.run_pure,hcheck];rw [eK (P:=P) hsk hf ρ w]
        have hv:v.lt ρ h.nx:=by
         obtain⟨_,e,he,hev,_⟩:=(pO (ρ:=ρ) es 0 _ hf).2 j v rfl;rw [←hev];exact(h2 e (List.mem_of_getElem? he)).2
        cases ok
        ·exact⟨by simp,hv⟩
        ·exact⟨by simp [SV.den,SV.iO],hv,trivial,trivial⟩
       ·rename_i hf
        injection hz with hz;subst hz
        simp only [Instr.lookup,Sem.run_bind,aA w hs,hd,Result.andThen_ok,SV.den,hget,Sem.run_pure,hcheck];rw [eK (P:=P) hsk hf ρ w];simp only [Option.map_none,Result.andThen_ok,Sem.run_bind,cQ w hse,Sem.run_pure]
        cases ok
        ·exact⟨by simp [jr],lR _ _ _⟩
        ·exact⟨by simp [SV.den,SV.iO,jr],lR _ _ _,trivial,trivial⟩
       ·cases hz
      ·cases hz
     ·cases hz
   ·cases hz
  ·cases hz
def nY(P:Program)(h:HS)(t:TypeId)(x k:SV)(ok:Bool):Option SV:=match x with
 | .v (.map (some g))=>bif h.M.X.op then BF P h t g k ok else none
 |x=>Ac P h t x k ok
theorem Dw{P:Program}{h:HS}{t:TypeId}{x k z:SV}{ok:Bool}(hz:nY P h t x k ok=some z){ρ:Nat→Loc}{w:World}(H:ba ρ h w):
  (Instr.lookup t (x.den ρ) (k.den ρ) ok).run P w= .ok (z.den ρ) w∧z.lt ρ h.nx:=by
 unfold nY at hz
 split at hz
 ·cases hop:h.M.X.op with
  |true=>
   rw [hop]at hz;exact Dx hz H
  |false=>rw [hop]at hz;cases hz
 ·exact Ab hz H
theorem lO{P:Program}{ρ:Nat→Loc}{h:HS}{w:World}(H:ba ρ h w){b clock clock':Nat}{es es':List (SV×SV×Nat)}(hb:h.H.get b=some (.map es clock))(hlt:∀e∈es',e.1.lt ρ h.nx∧e.2.1.lt ρ h.nx):
  ∃w',(setObj (ρ b).blk (.map (es'.map (aY ρ)).toArray clock')).run P w= .ok () w'∧ba ρ { h with H:=h.H.set b (.map es' clock') } w':=by
 obtain⟨_,h2,h3⟩:=H.blk b _ hb;have h3:w.heap[(ρ b).blk]? =some (.map (es.map (aY ρ)).toArray clock):=h3;refine⟨{ w with heap:=w.heap.setIfInBounds (ρ b).blk (.map (es'.map (aY ρ)).toArray clock') },by simp [setObj,Sem.run,h3],H.write hb hlt ?_ (fun k hk=> ?_) rfl rfl rfl⟩
 ·show(w.heap.setIfInBounds (ρ b).blk _)[(ρ b).blk]? =_
  rw [Array.getElem?_setIfInBounds_self,if_pos (Array.getElem?_eq_some_iff.1 h3).1]
 ·show(w.heap.setIfInBounds (ρ b).blk _)[k]? =_
  rw [Array.getElem?_setIfInBounds_ne (Ne.symm hk)]
theorem Af{d:TypeDesc}{x y:SV}(h:sq d x y=some true)(ρ:Nat→Loc):x.den ρ=y.den ρ:=by
 unfold sq at h
 split at h
 ·split at h
  ·rename_i k a k' b hx hy
   cases hk:kEq k k' with
   |false=>rw [hk]at h;cases h
   |true=>
    rw [hk]at h;injection h with h
    rw [SV.bI hx,SV.bI hy,iX.1 hk,of_decide_eq_true h]
  ·cases h
 ·split at h
  ·rename_i l m hl hm
   injection h with h
   rw [cP]at h;rw [SV.bW hl,SV.bW hm,eq_of_beq h]
  ·cases h
 ·split at h
  ·injection h with h
   rw [eq_of_beq h]
  ·cases h
 ·cases h
def j9(es:List (SV×SV×Nat))(i:Nat)(k v:SV):List (SV×SV×Nat):=
 match es,i with
 | [],_=> []
 |e::es,0=>(k,v,e.2.2)::es
 |e::es,i+1=>e::j9 es i k v
theorem rA(ρ:Nat→Loc)(k v:SV):∀(es:List (SV×SV×Nat)) (i:Nat),(j9 es i k v).map (aY ρ)=(es.map (aY ρ)).modify i fun e=> { e with key:=k.den ρ,val:=v.den ρ }
 | [],i=>by cases i<;>rfl
 |e::es,0=>rfl
 |e::es,i+1=>by simp only [j9,List.map_cons,List.modify_succ_cons,rA ρ k v es i]
theorem ui{ρ:Nat→Loc}{n:Nat}{k v:SV}(hk:k.lt ρ n)(hv:v.lt ρ n):∀(es:List (SV×SV×Nat)) (i:Nat),(∀e∈es,e.1.lt ρ n∧e.2.1.lt ρ n)→∀e∈j9 es i k v,e.1.lt ρ n∧e.2.1.lt ρ n
 | [],_,_,e,he=>by simp [j9]at he
 |e0::es,0,h,e,he=>by
  simp only [j9,List.mem_cons]at he;rcases he with rfl|he
  ·exact⟨hk,hv⟩
  ·exact h e (List.mem_cons_of_mem _ he)
 |e0::es,i+1,h,e,he=>by
  simp only [j9,List.mem_cons]at he;rcases he with rfl|he
  ·exact h _ List.mem_cons_self
  ·exact ui hk hv es i (fun e he=>h e (List.mem_cons_of_mem _ he)) e he
def E6(P:Program)(h:HS)(t:TypeId)(m k v:SV)(K:SV→HS→Bool):Bool:=
 match ty P t with
 |none=>false
 |some s=>match s.und,m with
  | .map kt _,.mp b=>match ty P kt,h.H.get b with
    |some sk,some (.map es clock)=>bif !(plainKey sk.und)then false else
     match qp sk.und k es 0 with
     |some (some (i,_))=>K (.v (.tuple #[])) { h with H:=h.H.set b (.map (j9 es i k v) clock) }
     |some none=>K (.v (.tuple #[])) { h with H:=h.H.set b (.map (es++ [(k,v,clock)]) (clock+1)) }
     |none=>false
    |_,_=>false
  |_,_=>false
theorem CR{P:Program}{h:HS}{t:TypeId}{m k v:SV}{K:SV→HS→Bool}(hk:E6 P h t m k v K){ρ:Nat→Loc}{w:World}(H:ba ρ h w)(hkl:k.lt ρ h.nx)(hvl:v.lt ρ h.nx):
  ∃w',(Instr.mapUpdate t (m.den ρ) (k.den ρ) (v.den ρ)).run P w= .ok () w'∧dT ρ h K (.tuple #[]) w':=by
 unfold E6 at hk
 split at hk
 ·exact absurd hk Bool.false_ne_true
 ·rename_i s hs
  split at hk
  ·rename_i kt et b hd
   split at hk
   ·rename_i sk es clock hsk hb
    cases hp:plainKey sk.und with
    |false=>rw [hp]at hk;exact absurd hk Bool.false_ne_true
    |true=>
     rw [hp]at hk;simp only [Bool.not_true,cond_false]at hk;have hcheck:∀b v,(Instr.checkKey b 10000 kt v).run P w= .ok () w:=fun b v=>ej hsk hp b 9999 v w
     obtain⟨_,h2,h3⟩:=H.blk b _ hb;have h3:w.heap[(ρ b).blk]? =some (.map (es.map (aY ρ)).toArray clock):=h3;have hget:(getObj (ρ b).blk).run P w= .ok (.map (es.map (aY ρ)).toArray clock) w:=by simp [getObj,Sem.run,h3]
     split at hk
     ·rename_i i x hf
      obtain⟨_,e,he,hev,hke⟩:=(pO (ρ:=ρ) es 0 _ hf).2 i x rfl;obtain⟨w',k1,k2⟩:=lO (P:=P) H hb (ui hkl hvl es i h2) (clock':=clock);refine⟨w',?_,_,_,ρ,hk,rfl,trivial,k2,Ext.refl _ _,Nat.le_refl _,Mem.le_refl _⟩;have hfk:=eK (P:=P) hsk hf ρ w
      have hi:((es.map (aY ρ)).toArray)[i]? =some (aY ρ e):=by
       have:es[i]? =some e:=by simpa using he
       simp [this]
      have hstay:∀x:Value,(∃k n,x= .int k n)∨(∃s,x= .string s)∨(∃b,x= .bool b)→(Instr.keyThatStays x x).run P w= .ok x w:=by
       intro x hx
       have:Instr.sameBits 10000 x x=true:=by
        rcases hx with⟨k,n,rfl⟩|⟨s,rfl⟩|⟨b,rfl⟩
        ·simp [Instr.sameBits]
        ·simp only [Instr.sameBits];rw [beq_toListBytes];simp
        ·simp [Instr.sameBits]
       simp [Instr.keyThatStays,this]
      have hshape:(∃k' n,k.den ρ= .int k' n)∨(∃s,k.den ρ= .string s)∨(∃b,k.den ρ= .bool b):=by
       unfold sq at hke
       split at hke
       ·split at hke
        ·rename_i k' a _ _ hx _;exact .inl ⟨_,_,SV.bI hx⟩
        ·cases hke
       ·split at hke
        ·rename_i l _ hl _;exact .inr (.inl ⟨_,SV.bW hl⟩)
        ·cases hke
       ·split at hke
        ·exact .inr (.inr ⟨_,rfl⟩)
        ·cases hke
       ·cases hke
      have hmod:(es.map (aY ρ)).toArray.modify i (fun e=> { e with key:=k.den ρ,val:=v.den ρ })=((j9 es i k v).map (aY ρ)).toArray:=by
       rw [rA];simp
      simp only [Instr.mapUpdate,Sem.run_bind,aA w hs,hd,Result.andThen_ok,SV.den,hget,hcheck,hfk,Option.map_some,hi,Option.getD_some];rw [show(aY ρ e).key=k.den ρ from(Af hke ρ).symm,hstay _ hshape];simp only [Result.andThen_ok,hmod];exact k1
     ·rename_i hf
      obtain⟨w',k1,k2⟩:=lO (P:=P) H hb (es':=es++ [(k,v,clock)]) (clock':=clock+1) (fun e he=>by
       rcases List.mem_append.1 he with he|he
       ·exact h2 e he
       ·rw [List.mem_singleton]at he;subst he;exact⟨hkl,hvl⟩)
      refine⟨w',?_,_,_,ρ,hk,rfl,trivial,k2,Ext.refl _ _,Nat.le_refl _,Mem.le_refl _⟩;have hfk:=eK (P:=P) hsk hf ρ w;simp only [Instr.mapUpdate,Sem.run_bind,aA w hs,hd,Result.andThen_ok,SV.den,hget,hcheck,hfk,Option.map_none];have:(es.map (aY ρ)).toArray.push { key:=k.den ρ,val:=v.den ρ,born:=clock } =((es++ [(k,v,clock)]).map (aY ρ)).toArray:=by simp [aY]
      rw [this];exact k1
     ·exact absurd hk Bool.false_ne_true
   ·exact absurd hk Bool.false_ne_true
  ·exact absurd hk Bool.false_ne_true
def E7(P:Program)(h:HS)(t:TypeId)(m k v:SV)(K:SV→HS→Bool):Bool:=match m with
 | .v (.map (some g))=>bif h.M.X.op then putB P h t g k v K else false
 |m=>E6 P h t m k v K
theorem xL{P:Program}{h:HS}{t:TypeId}{m k v:SV}{K:SV→HS→Bool}(hk:E7 P h t m k v K){ρ:Nat→Loc}{w:World}(H:ba ρ h w)(hkl:k.lt ρ h.nx)(hvl:v.lt ρ h.nx):
  ∃w',(Instr.mapUpdate t (m.den ρ) (k.den ρ) (v.den ρ)).run P w= .ok () w'∧dT ρ h K (.tuple #[]) w':=by
 unfold E7 at hk
 split at hk
 ·cases hop:h.M.X.op with
  |true=>
   rw [hop]at hk;exact Fa hk H
  |false=>rw [hop]at hk;exact absurd hk Bool.false_ne_true
 ·exact CR hk H hkl hvl
def delN(P:Program)(h:HS)(kt:TypeId)(m k:SV)(K:SV→HS→Bool):Bool:=match m with
 | .v (.map (some g))=>bif h.M.X.op then delB P h kt g k K else false
 |_=>false
def delV(P:Program)(h:HS)(ts:List TypeId)(m k:SV)(K:SV→HS→Bool):Bool:=
 match ts with
 |t::_=>match ty P t with
  |none=>false
  |some s=>match s.und with
   | .map kt _=>match ty P kt with
     |some sk=>bif !(plainKey sk.und)then delN P h kt m k K else
      match m with
      | .v (.map none)=>K (.v (.tuple #[])) h
      | .v (.map (some g))=>bif h.M.X.op then delB P h kt g k K else false
      | .mp b=>match h.H.get b with
        |some (.map es clock)=>match qp sk.und k es 0 with
         |some (some (i,_))=>K (.v (.tuple #[])) { h with H:=h.H.set b (.map (es.eraseIdx i) clock) }
         |some none=>K (.v (.tuple #[])) { h with H:=h.H.set b (.map es clock) }
         |none=>false
        |_=>false
      |_=>false
     |none=>false
   |_=>false
 | []=>false
theorem Gj{P:Program}{h:HS}{ts:List TypeId}{m k:SV}{K:SV→HS→Bool}(hk:delV P h ts m k K){ρ:Nat→Loc}{w:World}(H:ba ρ h w)(u:TypeId):
  ∃v w',(Builtin.delete_ ts.toArray u #[m.den ρ,k.den ρ]).run P w= .ok v w'∧dT ρ h K v w':=by
 unfold delV at hk
 split at hk
 ·rename_i t ts'
  have h0:(t::ts').toArray[0]? =some t:=by simp
  split at hk
  ·exact absurd hk Bool.false_ne_true
  ·rename_i s hs
   split at hk
   ·rename_i kt et hd
    split at hk
    ·rename_i sk hsk
     cases hp:plainKey sk.und with
     |false=>
      rw [hp]at hk;have hk:delN P h kt m k K:=hk;unfold delN at hk
      split at hk
      ·rename_i g
       cases hop:h.M.X.op with
       |true=>
        rw [hop]at hk;exact yQ hs hd hk H u
       |false=>rw [hop]at hk;exact absurd hk Bool.false_ne_true
      ·exact absurd hk Bool.false_ne_true
     |true=>
      rw [hp]at hk;simp only [Bool.not_true,cond_false]at hk;have hcheck:∀b v,(Instr.checkKey b 10000 kt v).run P w= .ok () w:=fun b v=>ej hsk hp b 9999 v w
      split at hk
      ·refine⟨.tuple #[],w,?_,_,_,ρ,hk,rfl,trivial,H,Ext.refl _ _,Nat.le_refl _,Mem.le_refl _⟩
       simp only [Builtin.delete_,h0,List.getElem?_toArray,List.getElem?_cons_zero,List.getElem?_cons_succ,Sem.run_bind,aA w hs,hd,Result.andThen_ok,SV.den,hcheck,Sem.run_pure]
      ·rename_i g
       cases hop:h.M.X.op with
       |true=>
        rw [hop]at hk;exact yQ hs hd hk H u
       |false=>rw [hop]at hk;exact absurd hk Bool.false_ne_true
      ·rename_i b
       split at hk
       ·rename_i es clock hb
        obtain⟨_,h2,h3⟩:=H.blk b _ hb;have h3:w.heap[(ρ b).blk]? =some (.map (es.map (aY ρ)).toArray clock):=h3;have hget:(getObj (ρ b).blk).run P w= .ok (.map (es.map (aY ρ)).toArray clock) w:=by simp [getObj,Sem.run,h3]
        split at hk
        ·rename_i i x hf
         obtain⟨w',k1,k2⟩:=lO (P:=P) H hb (es':=es.eraseIdx i) (clock':=clock) (fun e he=>h2 e (List.mem_of_mem_eraseIdx he));refine⟨.tuple #[],w',?_,_,_,ρ,hk,rfl,trivial,k2,Ext.refl _ _,Nat.le_refl _,Mem.le_refl _⟩;have hfk:=eK (P:=P) hsk hf ρ w;simp only [Builtin.delete_,h0,List.getElem?_toArray,List.getElem?_cons_zero,List.getElem?_cons_succ,Sem.run_bind,aA w hs,hd,Result.andThen_ok,SV.den,hget,hcheck,hfk,Option.map_some]
         have:(es.map (aY ρ)).toArray.eraseIdxIfInBounds i=((es.eraseIdx i).map (aY ρ)).toArray:=by
          apply Array.toList_inj.1;rw [map_eraseIdx];simp
         rw [this,k1];rfl
        ·rename_i hf
         obtain⟨w',k1,k2⟩:=lO (P:=P) H hb (es':=es) (clock':=clock) h2;refine⟨.tuple #[],w',?_,_,_,ρ,hk,rfl,trivial,k2,Ext.refl _ _,Nat.le_refl _,Mem.le_refl _⟩;have hfk:=eK (P:=P) hsk hf ρ w;simp only [Builtin.delete_,h0,List.getElem?_toArray,List.getElem?_cons_zero,List.getElem?_cons_succ,Sem.run_bind,aA w hs,hd,Result.andThen_ok,SV.den,hget,hcheck,hfk,Option.map_none];rw [k1];rfl
        ·exact absurd hk Bool.false_ne_true
       ·exact absurd hk Bool.false_ne_true
      ·exact absurd hk Bool.false_ne_true
    ·exact absurd hk Bool.false_ne_true
   ·exact absurd hk Bool.false_ne_true
 ·exact absurd hk Bool.false_ne_true
def vD(P:Program)(h:HS)(t:TypeId)(x:SV)(K:SV→HS→Bool):Bool:=
 match ty P t with
 |none=>false
 |some s=>match s.und with
  | .string=>match x.str? with
    |some l=>K (.ptr h.nx 0) (h.new (.siter l 0))
    |none=>false
  | .map _ _=>match x with
    | .mp b=>match h.H.get b with
      |some (.map _ clock)=>K (.ptr h.nx 0) (h.new (.miter b clock [] clock))
      |_=>false
    | .v (.map (some g))=>bif h.M.X.op then E2 h g K else false
    | .v (.map none)=>bif h.M.X.op then E0 h K else false
    |_=>false
  |_=>false
theorem zI{P:Program}{h:HS}{t:TypeId}{x:SV}{K:SV→HS→Bool}(hk:vD P h t x K){ρ:Nat→Loc}{w:World}(H:ba ρ h w):
  ∃v w',(Instr.range t (x.den ρ)).run P w= .ok v w'∧dT ρ h K v w':=by
 unfold vD at hk
 split at hk
 ·exact absurd hk Bool.false_ne_true
 ·rename_i s hs
  split at hk
  ·rename_i hd
   split at hk
   ·rename_i l hl
    refine⟨.pointer (some ⟨w.heap.size,0,none⟩), { w with heap:=w.heap.push (.stringIter ⟨l.toArray⟩ 0) },?_,_,_,extend ρ h.nx ⟨w.heap.size,0,0⟩,hk,?_,Nat.lt_succ_self _,?_,bd _ _ _,Nat.le_succ _,Mem.le_refl _⟩
    ·rw [SV.bW hl]
     simp [Instr.range,aA w hs,hd]
    ·simp [SV.den,bA]
    ·exact H.alloc (o:= .stringIter ⟨l.toArray⟩ 0) (B:= .siter l 0) (L:=⟨w.heap.size,0,0⟩) rfl trivial fun w' hw'=>⟨rfl,hw'⟩
   ·exact absurd hk Bool.false_ne_true
  ·rename_i kt et hd
   split at hk
   ·rename_i b
    split at hk
    ·rename_i es clock hb
     obtain⟨hbn,h2,h3⟩:=H.blk b _ hb;have h3:w.heap[(ρ b).blk]? =some (.map (es.map (aY ρ)).toArray clock):=h3;have hget:(getObj (ρ b).blk).run P w= .ok (.map (es.map (aY ρ)).toArray clock) w:=by simp [getObj,Sem.run,h3]
     refine⟨.pointer (some ⟨w.heap.size,0,none⟩), { w with heap:=w.heap.push (.mapIter (some (ρ b).blk) clock #[] clock) },?_,_,_,extend ρ h.nx ⟨w.heap.size,0,0⟩,hk,?_,Nat.lt_succ_self _,?_,bd _ _ _,Nat.le_succ _,Mem.le_refl _⟩
     ·simp [Instr.range,aA w hs,hd,SV.den,hget]
     ·simp [SV.den,bA]
     ·exact H.alloc (o:= .mapIter (some (ρ b).blk) clock #[] clock) (B:= .miter b clock [] clock) (L:=⟨w.heap.size,0,0⟩) rfl hbn fun w' hw'=>⟨rfl,hw'⟩
    ·exact absurd hk Bool.false_ne_true
   ·rename_i g
    cases hop:h.M.X.op with
    |true=>
     rw [hop]at hk;exact zK hs hd hk H
    |false=>rw [hop]at hk;exact absurd hk Bool.false_ne_true
   ·cases hop:h.M.X.op with
    |true=>
     rw [hop]at hk;exact zJ hs hd hk H
    |false=>rw [hop]at hk;exact absurd hk Bool.false_ne_true
   ·exact absurd hk Bool.false_ne_true
  ·exact absurd hk Bool.false_ne_true
def Fw(k:Nat):List Nat→Bool
 | []=>false
 |x::xs=>bif Nat.beq x k then true else Fw k xs
theorem memN_eq(k:Nat)(l:List Nat):Fw k l=l.contains k:=by
 induction l with
 |nil=>rfl
 |cons x xs ih=>
  simp only [Fw,ih,List.contains_cons]
  have:Nat.beq x k=(k==x):=by
   cases hb:Nat.beq x k with
   |true=>have:=Nat.eq_of_beq_eq_true hb;subst this;simp
   |false=>
    have:k≠x:=fun e=>by subst e;rw [Nat.beq_refl]at hb;cases hb
    simp [this]
  rw [this]
  cases (k==x)<;>rfl
def gu(seen:List Nat)(es:List (SV×SV×Nat)):List (SV×SV×Nat):=es.filter fun e=> !Fw e.2.2 seen
def oldV(since:Nat)(es:List (SV×SV×Nat)):List (SV×SV×Nat):=es.filter fun e=>Nat.blt e.2.2 since
def newV(since:Nat)(es:List (SV×SV×Nat)):List (SV×SV×Nat):=es.filter fun e=>Nat.ble since e.2.2
def gR(since:Nat)(left:List (SV×SV×Nat)):List (Option (SV×SV×Nat)):=
 match oldV since left with
 | []=>none::(newV since left).map some
 |e::es=>(e::es++newV since left).map some
def allP{α:Type}(F:α→Bool):List α→Bool
 | []=>true
 |x::xs=>match xs with
  | []=>F x
  |_::_=>bif F x then allP F xs else false
theorem GN{α:Type}{F:α→Bool} :∀ {l:List α},allP F l→∀x∈l,F x:=by
 intro l
 induction l with
 |nil=>intro _ x hx;cases hx
 |cons y l ih=>
  intro h x hx
  cases l with
  |nil=>
   have:x=y:=by simpa using hx
   subst this;exact h
  |cons z l=>
   have h:(bif F y then allP F (z::l)else false)=true:=h
   cases hy:F y with
   |false=>rw [hy]at h;cases h
   |true=>
    rw [hy]at h;rcases List.mem_cons.1 hx with rfl|hx
    ·exact hy
    ·exact ih h x hx
def FY(seen:List Nat)(last:Nat)(es:List (SV×SV×Nat)):Bool:= !seen.isEmpty&& !es.isEmpty&&es.all fun e=>Nat.ble last e.2.2
def stepM(h:HS)(b m since clock:Nat)(seen:List Nat)(K:SV→HS→Bool):Option (SV×SV×Nat)→Bool
 |some e=>K (.tup [.v (.bool true),e.1,e.2.1]) { h with H:=h.H.set b (.miter m since (seen++ [e.2.2]) clock) }
 |none=>K (.v (.tuple #[.bool false])) h
def Fq(h:HS)(b m since last:Nat)(seen:List Nat)(K:SV→HS→Bool):Bool:=
 match h.H.get m with
 |some (.map es clock)=>bif FY seen last es then false else allP (stepM h b m since clock seen K) (gR since (gu seen es))
 |_=>false
theorem D7{ρ:Nat→Loc}{es:List (SV×SV×Nat)}{seen:List Nat}{since:Nat} :
  (((if (((es.map (aY ρ)).toArray.filter fun e=> !seen.toArray.contains e.born).filter (·.born<since)).isEmpty then #[none]else #[])++
    ((((es.map (aY ρ)).toArray.filter fun e=> !seen.toArray.contains e.born).filter (·.born<since))++
     (((es.map (aY ρ)).toArray.filter fun e=> !seen.toArray.contains e.born).filter (·.born≥since))).map some):Array (Option MapEntry))=
    ((gR since (gu seen es)).map (Option.map (aY ρ))).toArray:=by
 have h1:(es.map (aY ρ)).toArray.filter (fun e=> !seen.toArray.contains e.born)=((gu seen es).map (aY ρ)).toArray:=by
  rw [List.filter_toArray,gu,List.filter_map];congr 2;apply List.filter_congr;intro e _;rw [Bool.eq_iff_iff];simp [aY,memN_eq];exact decide_eq_false_iff_not
 have h2:∀l:List (SV×SV×Nat),(l.map (aY ρ)).toArray.filter (fun e=>decide (e.born<since))=((oldV since l).map (aY ρ)).toArray:=by
  intro l;rw [List.filter_toArray,oldV,List.filter_map];congr 2;apply List.filter_congr;intro e _;show decide (e.2.2<since)=Nat.blt e.2.2 since
  cases hb:Nat.blt e.2.2 since with
  |true=>exact decide_eq_true (Nat.le_of_ble_eq_true hb)
  |false=>exact decide_eq_false fun h=>by rw [show Nat.blt e.2.2 since=true from Nat.ble_eq.mpr h]at hb;cases hb
 have h3:∀l:List (SV×SV×Nat),(l.map (aY ρ)).toArray.filter (fun e=>decide (e.born≥since))=((newV since l).map (aY ρ)).toArray:=by
  intro l;rw [List.filter_toArray,newV,List.filter_map];congr 2;apply List.filter_congr;intro e _;show decide (since≤e.2.2)=Nat.ble since e.2.2
  cases hb:Nat.ble since e.2.2 with
  |true=>exact decide_eq_true (Nat.le_of_ble_eq_true hb)
  |false=>exact decide_eq_false fun h=>by rw [show Nat.ble since e.2.2=true from Nat.ble_eq.mpr h]at hb;cases hb
 rw [h1,h2,h3];unfold gR
 cases oldV since (gu seen es)with
 |nil=>simp [Function.comp_def]
 |cons e l=>simp [Function.comp_def]
theorem De{P:Program}{h:HS}{b m since last:Nat}{seen:List Nat}{K:SV→HS→Bool}(hb:h.H.get b=some (.miter m since seen last))(hk:Fq h b m since last seen K){ρ:Nat→Loc}{w:World}(H:ba ρ h w)(u:TypeId):
  ∃v w',(Instr.next ((SV.ptr b 0).den ρ) false u).run P w= .ok v w'∧dT ρ h K v w':=by
 unfold Fq at hk
 split at hk
 ·rename_i es clock hm
  obtain⟨_,hmn,h0,h3⟩:=H.blk b _ hb;obtain⟨_,hes,hm3⟩:=H.blk m _ hm;have hm3:w.heap[(ρ m).blk]? =some (.map (es.map (aY ρ)).toArray clock):=hm3;have hget:(getObj (ρ b).blk).run P w= .ok (.mapIter (some (ρ m).blk) since seen.toArray last) w:=by simp [getObj,Sem.run,h3]
  have hgetm:∀w':World,w'.heap=w.heap→(getObj (ρ m).blk).run P w'= .ok (.map (es.map (aY ρ)).toArray clock) w':=fun w' hw'=>by simp [getObj,Sem.run,hw',hm3]
  have hden:(SV.ptr b 0).den ρ= .pointer (some ⟨(ρ b).blk,0,none⟩):=by simp [SV.den,h0]
  rw [hden]
  cases hg:FY seen last es with
  |true=>rw [hg]at hk;exact absurd hk Bool.false_ne_true
  |false=>
   rw [hg]at hk;simp only [cond_false]at hk
   have hgone:(!seen.toArray.isEmpty&& !(es.map (aY ρ)).toArray.isEmpty&&(es.map (aY ρ)).toArray.all fun e=>decide (e.born≥last))=false:=by
    rw [←hg];unfold FY;congr 1
    ·simp
    ·rw [List.all_toArray,List.all_map]
     refine List.all_congr rfl fun e=> ?_
     show decide (last≤e.2.2)=Nat.ble last e.2.2
     cases hb:Nat.ble last e.2.2 with
     |true=>exact decide_eq_true (Nat.le_of_ble_eq_true hb)
     |false=>exact decide_eq_false fun h=>by rw [show Nat.ble last e.2.2=true from Nat.ble_eq.mpr h]at hb;cases hb
   generalize hq:Question.mapNext ((gR since (gu seen es)).map (Option.map (aY ρ))).toArray.size=q
   obtain⟨i,w1,hdraw,hw1,hi⟩:∃i w1,(choose q).run P w= .ok i w1∧(w1=w∨w1= { w with drawn:=w.drawn+1 })∧i<(gR since (gu seen es)).length:=by
    have hpos:0<(gR since (gu seen es)).length:=by
     unfold gR
     split<;>simp
    simp only [choose,Sem.run];subst hq
    by_cases hf:(Question.mapNext ((gR since (gu seen es)).map (Option.map (aY ρ))).toArray.size).forced=true
    ·rw [if_pos hf]
     exact⟨0,w,rfl,.inl rfl,hpos⟩
    ·rw [if_neg hf]
     refine⟨_,_,rfl,.inr rfl,?_⟩;simp only [Question.cut,List.size_toArray,List.length_map];exact Nat.mod_lt _ hpos
   have H1:ba ρ h w1:=by
    rcases hw1 with rfl|rfl
    ·exact H
    ·exact H.drawn _
   have hheap:w1.heap=w.heap:=by rcases hw1 with rfl|rfl<;>rfl
   have hc:=GN hk ((gR since (gu seen es))[i]) (List.getElem_mem hi)
   have hrun:∀X:Sem Value,(Instr.next (.pointer (some ⟨(ρ b).blk,0,none⟩)) false u).run P w=
     ((match ((gR since (gu seen es)).map (Option.map (aY ρ))).toArray[i]? with
       |some (some e)=>do
        setObj (ρ b).blk (.mapIter (some (ρ m).blk) since (seen.toArray.push e.born) clock)
        pure (.tuple #[.bool true,e.key,e.val])
       |some none=>pure (.tuple #[.bool false])
       |none=>stuck "Next: no such candidate" :Sem Value)).run P w1:=by
    intro _;simp only [Instr.next,Sem.run_bind,hget,hgetm w rfl,Result.andThen_ok,hgone,Bool.false_eq_true,if_false,D7,hq,hdraw];generalize ((gR since (gu seen es)).map (Option.map (aY ρ))).toArray[i]? =c
    cases c with
    |none=>rfl
    |some c=>cases c<;>rfl
   rw [hrun (pure undef)]
   have hat:((gR since (gu seen es)).map (Option.map (aY ρ))).toArray[i]? =some (((gR since (gu seen es))[i]).map (aY ρ)):=by
    rw [List.getElem?_toArray,List.getElem?_map,List.getElem?_eq_getElem hi];rfl
   rw [hat]
   have hmem:∀e,(gR since (gu seen es))[i]=some e→e∈es:=by
    intro e he;have h1:some e∈gR since (gu seen es):=he▸List.getElem_mem hi
    have h2:e∈gu seen es:=by
     unfold gR at h1
     split at h1
     ·simp only [List.mem_cons,reduceCtorEq,List.mem_map,Option.some.injEq,exists_eq_right,false_or]at h1
      exact(List.mem_filter.1 h1).1
     ·rename_i e' l hl
      rw [←hl]at h1;simp only [List.mem_map,List.mem_append,Option.some.injEq,exists_eq_right]at h1;rcases h1 with h1|h1<;>exact(List.mem_filter.1 h1).1
    exact(List.mem_filter.1 h2).1
   cases hce:(gR since (gu seen es))[i]with
   |none=>
    rw [hce]at hc;exact⟨_,w1,rfl,_,_,ρ,hc,rfl,trivial,H1,Ext.refl _ _,Nat.le_refl _,Mem.le_refl _⟩
   |some e=>
    rw [hce]at hc;obtain⟨k1,k2⟩:=hes e (hmem e hce);have h3':w1.heap[(ρ b).blk]? =some (.mapIter (some (ρ m).blk) since seen.toArray last):=by rw [hheap];exact h3
    refine⟨.tuple #[.bool true,e.1.den ρ,e.2.1.den ρ], { w1 with heap:=w1.heap.setIfInBounds (ρ b).blk (.mapIter (some (ρ m).blk) since (seen++ [e.2.2]).toArray clock) },?_,_,_,ρ,hc,?_,⟨trivial,k1,k2,trivial⟩,?_,Ext.refl _ _,Nat.le_refl _,Mem.le_refl _⟩
    ·simp [aY,setObj,Sem.run,h3']
    ·simp [SV.den,SV.iO]
    ·refine H1.write hb hmn ⟨h0,?_⟩ (fun k hk=> ?_) rfl rfl rfl
     ·show(w1.heap.setIfInBounds (ρ b).blk _)[(ρ b).blk]? =_
      rw [Array.getElem?_setIfInBounds_self,if_pos (Array.getElem?_eq_some_iff.1 h3').1]
     ·show(w1.heap.setIfInBounds (ρ b).blk _)[k]? =_
      rw [Array.getElem?_setIfInBounds_ne (Ne.symm hk)]
 ·exact absurd hk Bool.false_ne_true
def nextS(h:HS)(b pos:Nat)(s:List UInt8)(K:SV→HS→Bool):Bool:=
 bif Nat.blt pos s.length then
  (match Utf8.decode ⟨s.toArray⟩ pos with
  |(c,width)=>K (.tup [.v (.bool true),.v (.int .i64 pos),.v (.int .i32 c)]) { h with H:=h.H.set b (.siter s (pos+width)) })
 else K (.v (.tuple #[.bool false])) h
def BA(h:HS)(x:SV)(isString:Bool)(K:SV→HS→Bool):Bool:=
 match x with
 | .ptr b o=>bif Nat.beq o 0 then(match h.H.get b with
   |some (.siter s pos)=>bif isString then nextS h b pos s K else false
   |some (.miter m since seen last)=>bif isString then false else Fq h b m since last seen K
   |_=>false)else false
 | .v (.pointer (some ⟨i,0,none⟩))=>bif h.M.X.op then(bif isString then false else nextA h i K)else false
 |_=>false
theorem Dd{P:Program}{h:HS}{x:SV}{i:Bool}{K:SV→HS→Bool}(hk:BA h x i K){ρ:Nat→Loc}{w:World}(H:ba ρ h w)(u:TypeId):
  ∃v w',(Instr.next (x.den ρ) i u).run P w= .ok v w'∧dT ρ h K v w':=by
 unfold BA at hk
 split at hk
 ·rename_i b o
  cases ho:Nat.beq o 0 with
  |false=>rw [ho]at hk;exact absurd hk Bool.false_ne_true
  |true=>
  rw [ho]at hk;have ho:=Nat.eq_of_beq_eq_true ho;subst ho;simp only [cond_true]at hk
  split at hk
  ·rename_i s pos hb
   cases i with
   |false=>exact absurd hk Bool.false_ne_true
   |true=>
    simp only [cond_true,nextS]at hk;obtain⟨_,h2,h0,h3⟩:=H.blk b _ hb;have hget:(getObj (ρ b).blk).run P w= .ok (.stringIter ⟨s.toArray⟩ pos) w:=by simp [getObj,Sem.run,h3]
    have hsz:(⟨s.toArray⟩:ByteArray).size=s.length:=by show s.toArray.size=_;simp
    have hden:(SV.ptr b 0).den ρ= .pointer (some ⟨(ρ b).blk,0,none⟩):=by simp [SV.den,h0]
    rw [hden]
    cases hlt:Nat.blt pos s.length with
    |true=>
     rw [hlt]at hk;simp only [cond_true]at hk;have hlt:pos<s.length:=Nat.le_of_ble_eq_true hlt;refine⟨.tuple #[.bool true,goInt pos,.int .i32 (Utf8.decode ⟨s.toArray⟩ pos).1], { w with heap:=w.heap.setIfInBounds (ρ b).blk (.stringIter ⟨s.toArray⟩ (pos+(Utf8.decode ⟨s.toArray⟩ pos).2)) },?_,_,_,ρ,hk,rfl,⟨trivial,trivial,trivial,trivial⟩,?_,Ext.refl _ _,Nat.le_refl _,Mem.le_refl _⟩
     ·simp only [Instr.next,Sem.run_bind,hget,Result.andThen_ok,hsz,hlt,if_true]
      simp [setObj,Sem.run,h3]
     ·refine H.write hb trivial ⟨h0,?_⟩ (fun k hk=> ?_) rfl rfl rfl
      ·show(w.heap.setIfInBounds (ρ b).blk _)[(ρ b).blk]? =_
       rw [Array.getElem?_setIfInBounds_self,if_pos (Array.getElem?_eq_some_iff.1 h3).1]
      ·show(w.heap.setIfInBounds (ρ b).blk _)[k]? =_
       rw [Array.getElem?_setIfInBounds_ne (Ne.symm hk)]
    |false=>
     rw [hlt]at hk;simp only [cond_false]at hk;have hge:¬pos<s.length:=fun h=>by rw [show Nat.blt pos s.length=true from Nat.ble_eq.mpr h]at hlt;cases hlt
     refine⟨.tuple #[.bool false],w,?_,_,_,ρ,hk,rfl,trivial,H,Ext.refl _ _,Nat.le_refl _,Mem.le_refl _⟩;simp only [Instr.next,Sem.run_bind,hget,Result.andThen_ok,hsz,hge,if_false,Sem.run_pure]
  ·rename_i m since seen last hb
   cases i with
   |true=>exact absurd hk Bool.false_ne_true
   |false=>exact De hb hk H u
  ·exact absurd hk Bool.false_ne_true
 ·cases hop:h.M.X.op with
  |true=>
   rw [hop]at hk
   cases i with
   |true=>exact absurd hk Bool.false_ne_true
   |false=>exact Df hk H u
  |false=>rw [hop]at hk;exact absurd hk Bool.false_ne_true
 ·exact absurd hk Bool.false_ne_true
end
end Go.Sx
