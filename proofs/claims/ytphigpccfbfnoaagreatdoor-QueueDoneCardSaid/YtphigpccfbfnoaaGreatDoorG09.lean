/-
  Parts of the proof: SxS
-/
import Derived.Test.YtphigpccfbfnoaaGreatDoorG08
import Derived.Lib.Builder
import Derived.Lib.UnsafeStr
import Derived.Laws.BytesArg
import Derived.Laws.IdiomStrings
set_option maxRecDepth 100000
set_option maxHeartbeats 0
namespace Go.Sx
noncomputable section
def tT:TypeDesc→Bool
 | .int .u8=>true
 |_=>false
theorem qR{d:TypeDesc}(h:tT d=true):d= .int .u8:=by
 unfold tT at h
 split at h
 ·rfl
 ·cases h
def AJ(P:Program)(h:HS)(src dst:TypeId)(x:SV)(K:SV→HS→Bool):Bool:=
 match ty P src,ty P dst with
 |some s,some d=>match s.und,d.und with
  | .string,.slice e=>match ty P e,x.str? with
    |some se,some l=>bif tT se.und then K (.slc h.nx 0 l.length (.sub h.nx 0)) (h.new (.cells (kz l) 1 0))else false
    |_,_=>false
  |_,_=>false
 |_,_=>false
theorem AI{P:Program}{h:HS}{src dst:TypeId}{x:SV}{K:SV→HS→Bool}(hk:AJ P h src dst x K){ρ:Nat→Loc}{w:World}(H:ba ρ h w):
  ∃v w',(convert src dst (x.den ρ)).run P w= .ok v w'∧dT ρ h K v w':=by
 unfold AJ at hk
 split at hk
 ·rename_i s d hs hd
  split at hk
  ·rename_i e hsu hdu
   split at hk
   ·rename_i se l hse hl
    cases hb:tT se.und with
    |false=>rw [hb]at hk;exact absurd hk Bool.false_ne_true
    |true=>
     rw [hb]at hk;simp only [cond_true]at hk;have h1:P.underlying src=some .string:=by rw [(bZ hs).und,hsu]
     have h2:P.underlying dst=some (.slice e):=by rw [(bZ hd).und,hdu]
     have h3:P.underlying e=some (.int .u8):=by rw [(bZ hse).und,qR hb]
     rw [SV.bW hl];have hrun:=run_bytes_of_string (P:=P) w src dst e ⟨l.toArray⟩ h1 h2 h3;have hsz:(⟨l.toArray⟩:ByteArray).size=l.length:=by show l.toArray.size=_;simp
     have hge:=grownCap_ge w (⟨l.toArray⟩:ByteArray).size 0 e;generalize grownCap w (⟨l.toArray⟩:ByteArray).size 0 e=cap at hrun hge
     have hcs:(bytesRow ⟨l.toArray⟩ cap).size=cap:=by
      unfold bytesRow;have:(⟨l.toArray⟩:ByteArray).data.size=(⟨l.toArray⟩:ByteArray).size:=rfl;rw [Array.size_append,Array.size_map,Array.size_replicate,this];omega
     refine⟨_,_,hrun,_,_,extend ρ h.nx ⟨w.heap.size,0,cap⟩,hk,?_,⟨Nat.lt_succ_self _,Nat.lt_succ_self _,?_⟩,?_,bd _ _ _,Nat.le_succ _,Mem.le_refl _⟩
     ·simp [SV.den,df.den,bA,hsz]
     ·simp only [df.den,bA];omega
     ·refine(H.drawn (w.drawn+1)).alloc (B:= .cells (kz l) 1 0) (L:=⟨w.heap.size,0,cap⟩) rfl (fun y hy=> ?_) fun w' hw'=>⟨_,_,_,hw',fun i y hi=> ?_,?_,.inr ?_,⟨.inr (Nat.le_refl _),.inl rfl⟩⟩
      ·obtain⟨b,_,rfl⟩:=List.mem_map.1 hy;trivial
      ·unfold kz at hi
       rw [List.getElem?_map]at hi
       cases hli:l[i]? with
       |none=>rw [hli]at hi;cases hi
       |some b=>
        rw [hli]at hi;injection hi with hi;subst hi
        have hlt:=(List.getElem?_eq_some_iff.1 hli).1;show(bytesRow ⟨l.toArray⟩ cap)[0+i]? =_
        unfold bytesRow;rw [Nat.zero_add,Array.getElem?_append_left (by simpa using hlt)];simp [hli,SV.den]
      ·show 0+cap*1≤_
       rw [hcs];omega
      ·simp only [kz,List.length_map]
       show l.length≤cap*1
       omega
   ·exact absurd hk Bool.false_ne_true
  ·exact absurd hk Bool.false_ne_true
 ·exact absurd hk Bool.false_ne_true
def FA(P:Program)(h:HS)(src dst:TypeId)(x:SV)(K:SV→HS→Bool):Bool:=
 match ty P src with
 |some s=>match s.und with
  | .slice e=>match ty P e,x with
    |some se,.slc b o l c=>match h.H.get b with
     |some (.cells cs es τ)=>bif tT se.und&&Nat.beq src dst then K (.slc b o l c) { h with H:=h.H.set b (.cells cs es τ) } else false
     |_=>false
    |_,_=>false
  |_=>false
 |none=>false
theorem Dn{P:Program}{h:HS}{src dst:TypeId}{x:SV}{K:SV→HS→Bool}(hk:FA P h src dst x K){ρ:Nat→Loc}{w:World}(H:ba ρ h w)(hx:x.lt ρ h.nx):
  ∃v w',(convert src dst (x.den ρ)).run P w= .ok v w'∧dT ρ h K v w':=by
 unfold FA at hk
 split at hk
 ·rename_i s hs
  split at hk
  ·rename_i e hsu
   split at hk
   ·rename_i se b o l c hse
    split at hk
    ·rename_i cs es τ hb
     cases hc:tT se.und&&Nat.beq src dst with
     |false=>rw [hc]at hk;exact absurd hk Bool.false_ne_true
     |true=>
      rw [hc]at hk;simp only [Bool.and_eq_true]at hc;simp only [cond_true]at hk;have heq:=Nat.eq_of_beq_eq_true hc.2;subst heq;obtain⟨_,h2,C,t,fz,h3,h4,h5,h7,h6⟩:=H.blk b _ hb;have hshape:w.shape? (ρ b).blk=some (t,C.size):=by unfold World.shape?;rw [h3]
      have hlt:=(Array.getElem?_eq_some_iff.1 h3).1
      have hfz:(w.freeze ⟨(ρ b).blk,C.size,none⟩ 1).heap[(ρ b).blk]? =some (.cells C t (if fz.1==fz.2 then(C.size,C.size+1)else(min fz.1 C.size,max fz.2 (C.size+1)))):=by
       unfold World.freeze;rw [if_neg (by decide)];show(w.heap.modify (ρ b).blk _)[(ρ b).blk]? =_
       rw [Array.getElem?_modify,if_pos rfl,h3];rfl
      refine⟨_,w.freeze ⟨(ρ b).blk,C.size,none⟩ 1,?_,_,_,ρ,hk,rfl,hx,?_,Ext.refl _ _,Nat.le_refl _,Mem.le_refl _⟩
      ·simp [convert,aA w hs,hsu,aA w hse,qR hc.1,SV.den,markStringish,hshape]
      ·refine H.write hb h2 ⟨C,t,_,hfz,h4,h5,h7,?_⟩ (fun k hk=> ?_) rfl rfl rfl
       ·by_cases he:fz.1=fz.2
        ·rw [if_pos (by simpa using he)];exact⟨.inr (Nat.le_refl _),h6.2⟩
        ·rw [if_neg (by simpa using he)]
         have:=h6.1.resolve_left he;exact⟨.inr (by show C.size≤min fz.1 C.size;omega),h6.2⟩
       ·show(World.freeze w ⟨(ρ b).blk,C.size,none⟩ 1).heap[k]? =_
        unfold World.freeze;rw [if_neg (by decide)];show(w.heap.modify (ρ b).blk _)[k]? =_
        rw [Array.getElem?_modify,if_neg (Ne.symm hk)]
    ·exact absurd hk Bool.false_ne_true
   ·exact absurd hk Bool.false_ne_true
  ·exact absurd hk Bool.false_ne_true
 ·exact absurd hk Bool.false_ne_true
def FD(P:Program)(h:HS)(src dst:TypeId)(a:Addr)(n c:Nat)(K:SV→HS→Bool):Bool:=
 match ty P src with
 |some s=>match s.und with
  | .slice e=>match ty P e with
    |some se=>bif tT se.und&&Nat.beq src dst then
       h.M.D (∃cs t,h.M.A.blk a.block=some (.cells cs t (0,0))∧∀A':aa,A'.blk a.block=some (.cells cs t (cs.size,cs.size+1))→(∀k,k≠a.block→A'.blk k=h.M.A.blk k)→K (.v (.slice (some a) n c)) (h.put A')=true)
     else false
    |none=>false
  |_=>false
 |none=>false
theorem Dr{P:Program}{h:HS}{src dst:TypeId}{a:Addr}{n c:Nat}{K:SV→HS→Bool}(hk:FD P h src dst a n c K){ρ:Nat→Loc}{w:World}(H:ba ρ h w):
  ∃v w',(convert src dst (.slice (some a) n c)).run P w= .ok v w'∧dT ρ h K v w':=by
 unfold FD at hk
 split at hk
 ·rename_i s hs
  split at hk
  ·rename_i e hsu
   split at hk
   ·rename_i se hse
    cases hc:tT se.und&&Nat.beq src dst with
    |false=>rw [hc]at hk;exact absurd hk Bool.false_ne_true
    |true=>
     rw [hc]at hk;simp only [Bool.and_eq_true]at hc;simp only [cond_true]at hk;have heq:=Nat.eq_of_beq_eq_true hc.2;subst heq;obtain⟨cs,t,hb,hk⟩:=(h.M.X.hD _).1 hk;have h3:w.heap[a.block]? =some (.cells cs t (0,0)):=H.are _ _ hb;have hshape:w.shape? a.block=some (t,cs.size):=by unfold World.shape?;rw [h3]
     have hother:∀k,k≠a.block→(w.freeze ⟨a.block,cs.size,none⟩ 1).heap[k]? =w.heap[k]? :=fun k hk=>by
      unfold World.freeze;rw [if_neg (by decide)];show(w.heap.modify a.block _)[k]? =_
      rw [Array.getElem?_modify,if_neg (Ne.symm hk)]
     have hself:(w.freeze ⟨a.block,cs.size,none⟩ 1).heap[a.block]? =some (.cells cs t (cs.size,cs.size+1)):=by
      unfold World.freeze;rw [if_neg (by decide)];show(w.heap.modify a.block _)[a.block]? =_
      rw [Array.getElem?_modify,if_pos rfl,h3];rfl
     have hA1:(aa.of fun k=>if k=a.block then some (.cells cs t (cs.size,cs.size+1))else h.M.A.blk k).blk a.block=some (.cells cs t (cs.size,cs.size+1)):=by
      show(if a.block=a.block then _ else _)=_
      rw [if_pos rfl]
     have hA2:∀k,k≠a.block→(aa.of fun k=>if k=a.block then some (.cells cs t (cs.size,cs.size+1))else h.M.A.blk k).blk k=h.M.A.blk k:=fun k hk=>by
      show(if k=a.block then _ else _)=_
      rw [if_neg hk]
     refine⟨_,w.freeze ⟨a.block,cs.size,none⟩ 1,?_,.v (.slice (some a) n c),_,ρ,hk _ hA1 hA2,rfl,trivial,H.uW rfl rfl rfl (fun k hn _=> ?_) (fun k o ho=> ?_) (fun k o ho=> ?_),Ext.refl _ _,Nat.le_refl _,Mem.dH _ _⟩
     ·simp [convert,aA w hs,hsu,aA w hse,qR hc.1,markStringish,hshape]
      rfl
     ·exact hother k fun e=>by rw [e,hb]at hn;cases hn
     ·by_cases e:k=a.block
      ·rw [e]at ho ⊢
       rw [hA1]at ho;rw [hself];exact ho
      ·rw [hA2 k e]at ho
       rw [hother k e];exact H.are _ _ ho
     ·by_cases e:k=a.block
      ·rw [e];exact .inl ⟨_,hb⟩
      ·rw [hA2 k e]at ho
       exact .inl ⟨o,ho⟩
   ·exact absurd hk Bool.false_ne_true
  ·exact absurd hk Bool.false_ne_true
 ·exact absurd hk Bool.false_ne_true
def Cd(P:Program)(h:HS)(src dst:TypeId)(x:SV)(K:SV→HS→Bool):Bool:=
 match x with
 | .slc b o l c=>FA P h src dst (.slc b o l c) K
 | .v (.slice (some a) n c)=>FD P h src dst a n c K
 |x=>AJ P h src dst x K
theorem D0{P:Program}{h:HS}{src dst:TypeId}{x:SV}{K:SV→HS→Bool}(hk:Cd P h src dst x K){ρ:Nat→Loc}{w:World}(H:ba ρ h w)(hx:x.lt ρ h.nx):
  ∃v w',(convert src dst (x.den ρ)).run P w= .ok v w'∧dT ρ h K v w':=by
 unfold Cd at hk
 split at hk
 ·exact Dn hk H hx
 ·exact Dr hk H
 ·exact AI hk H
def bytesOf:List SV→Option (List UInt8)
 | []=>some []
 |x::xs=>match x with
  | .v (.int .u8 n)=>match bytesOf xs with
    |some l=>some (UInt8.ofNat n.toNat::l)
    |none=>none
  |_=>none
theorem wO{ρ:Nat→Loc} :∀ {xs:List SV} {l:List UInt8},bytesOf xs=some l→∃ns:List Int,xs.map (SV.den ρ)=ns.map (Value.int .u8)∧l=ns.map fun n=>UInt8.ofNat n.toNat:=by
 intro xs
 induction xs with
 |nil=>intro l h;injection h with h;subst h;exact⟨[],rfl,rfl⟩
 |cons x xs ih=>
  intro l h;simp only [bytesOf]at h
  split at h
  ·rename_i n
   split at h
   ·rename_i l' hl'
    injection h with h;subst h
    obtain⟨ns,h1,h2⟩:=ih hl';exact⟨n::ns,by simp [h1,SV.den],by simp [h2]⟩
   ·cases h
  ·cases h
def zl(P:Program)(h:HS)(src dst:TypeId)(x:SV):Option SV:=
 match ty P src,ty P dst with
 |some s,some d=>match s.und,d.und with
  | .slice e,.string=>match ty P e with
    |some se=>bif tT se.und then(match x with
     | .slc b o l _=>match h.H.get b with
       |some (.cells cs _ _)=>match takeN l (cs.drop o)with
        |some r=>match bytesOf r with
         |some bs=>some (.str bs)
         |none=>none
        |none=>none
       |_=>none
     | .v (.slice none _ _)=>some (.str [])
     |_=>none)else none
    |none=>none
  |_,_=>none
 |_,_=>none
theorem zk{P:Program}{h:HS}{src dst:TypeId}{x z:SV}(hz:zl P h src dst x=some z){ρ:Nat→Loc}{w:World}(H:ba ρ h w):
  (convert src dst (x.den ρ)).run P w= .ok (z.den ρ) w∧z.lt ρ h.nx:=by
 unfold zl at hz
 split at hz
 ·rename_i s d hs hd
  split at hz
  ·rename_i e hsu hdu
   split at hz
   ·rename_i se hse
    cases hb:tT se.und with
    |false=>rw [hb]at hz;cases hz
    |true=>
     rw [hb]at hz;simp only [cond_true]at hz;have h1:P.underlying src=some (.slice e):=by rw [(bZ hs).und,hsu]
     have h2:P.underlying dst=some .string:=by rw [(bZ hd).und,hdu]
     have h3:P.underlying e=some (.int .u8):=by rw [(bZ hse).und,qR hb]
     split at hz
     ·rename_i b o l c
      split at hz
      ·rename_i cs es τ hbl
       split at hz
       ·rename_i r hr
        split at hz
        ·rename_i bs hbs
         injection hz with hz;subst hz
         refine⟨?_,trivial⟩;obtain⟨_,_,C,t,fz,h4,h5,_⟩:=H.blk b _ hbl;obtain⟨k1,k2⟩:=gA hr;obtain⟨ns,g1,g2⟩:=wO (ρ:=ρ) hbs;have hlen:ns.length=l:=by rw [←k1,←List.length_map (f:=SV.den ρ),g1,List.length_map]
         have hload:=ep (P:=P) (o:=(ρ b).off+o) h4 (r.map (SV.den ρ)) 0 #[] (fun j v hj=>by
          rw [List.getElem?_map]at hj
          cases hx:r[j]? with
          |none=>rw [hx]at hj;cases hj
          |some x=>
           rw [hx]at hj;injection hj with hj;subst hj
           have:=k2 j x hx;rw [List.getElem?_drop]at this;rw [Nat.zero_add,Nat.add_assoc]
           exact h5 (o+j) x this)
         rw [List.length_map,k1,g1]at hload;simp only [SV.den];rw [run_convert_bytes_string w src dst e _ l _ h1 h3 h2,run_bytesToString w _ l _ ns (by simpa [loadCells]using hload),foldl_push_bytes,←g2];simp [ByteArray.empty,ByteArray.emptyWithCapacity];rfl
        ·cases hz
       ·cases hz
      ·cases hz
     ·injection hz with hz;subst hz
      refine⟨?_,trivial⟩;simp only [SV.den];rw [run_convert_bytes_nil w src e h1 h3 _ _ dst h2];rfl
     ·cases hz
   ·cases hz
  ·cases hz
 ·cases hz
def Cg(st:Nat):List (SV×SV×Nat)→Option SV
 | []=>none
 |e::es=>bif Nat.beq e.2.2 st then some (.tup [e.1,e.2.1])else Cg st es
def BH:List Nat→Option Nat
 | []=>none
 |x::xs=>match xs with
  | []=>some x
  |_::_=>BH xs
theorem yj:∀(l:List Nat),BH l=l.getLast?
 | []=>rfl
 | [_]=>rfl
 |_::y::l=>by
  show BH (y::l)=_
  rw [yj (y::l)];simp
def lG(h:HS)(x:SV):Option SV:=
 match x with
 | .ptr b o=>bif Nat.beq o 0 then(match h.H.get b with
   |some (.miter m _ seen last)=>match BH seen,h.H.get m with
    |some st,some (.map es clock)=>bif Nat.beq clock last then Cg st es else none
    |_,_=>none
   |_=>none)else none
 | .v (.pointer (some ⟨i,0,none⟩))=>bif h.M.X.op then(match h.M.A.ent i with
   |some v=>some (.v v)
   |none=>none)else none
 |_=>none
theorem Ea{ρ:Nat→Loc}{n st:Nat} :∀ {es:List (SV×SV×Nat)} {z:SV},Cg st es=some z→(∀e∈es,e.1.lt ρ n∧e.2.1.lt ρ n)→
  ∃e,(es.map (aY ρ)).find? (fun e=>e.born==st)=some e∧z.den ρ= .tuple #[e.key,e.val]∧z.lt ρ n:=by
 intro es
 induction es with
 |nil=>intro z h;cases h
 |cons e es ih=>
  intro z h hl;simp only [Cg]at h
  cases hb:Nat.beq e.2.2 st with
  |true=>
   rw [hb]at h;injection h with h;subst h
   have:=Nat.eq_of_beq_eq_true hb;obtain⟨l1,l2⟩:=hl e List.mem_cons_self;exact⟨aY ρ e,by simp [aY,this],by simp [SV.den,SV.iO,aY],⟨l1,l2,trivial⟩⟩
  |false=>
   rw [hb]at h;obtain⟨e',h1,h2⟩:=ih h fun e he=>hl e (List.mem_cons_of_mem _ he)
   refine⟨e',?_,h2⟩
   have hne:(e.2.2==st)=false:=by
    cases hq:e.2.2==st with
    |false=>rfl
    |true=>
     have:e.2.2=st:=by simpa using hq
     rw [this,Nat.beq_refl]at hb;cases hb
   rw [List.map_cons,List.find?_cons];have:((aY ρ e).born==st)=false:=hne;rw [this];exact h1
theorem Aw{P:Program}{h:HS}{x z:SV}(hz:lG h x=some z){ρ:Nat→Loc}{w:World}(H:ba ρ h w):(Instr.entry (x.den ρ)).run P w= .ok (z.den ρ) w∧z.lt ρ h.nx:=by
 unfold lG at hz
 split at hz
 ·rename_i b o
  cases ho:Nat.beq o 0 with
  |false=>rw [ho]at hz;cases hz
  |true=>
   rw [ho]at hz;have ho:=Nat.eq_of_beq_eq_true ho;subst ho;simp only [cond_true]at hz
   split at hz
   ·rename_i m since seen last hb
    split at hz
    ·rename_i st es clock hst hm
     cases hc:Nat.beq clock last with
     |false=>rw [hc]at hz;cases hz
     |true=>
      rw [hc]at hz;simp only [cond_true]at hz;have hc:=Nat.eq_of_beq_eq_true hc;subst hc;obtain⟨_,_,h0,h3⟩:=H.blk b _ hb;obtain⟨_,hes,hm3⟩:=H.blk m _ hm;have hm3:w.heap[(ρ m).blk]? =some (.map (es.map (aY ρ)).toArray clock):=hm3;have hget:(getObj (ρ b).blk).run P w= .ok (.mapIter (some (ρ m).blk) since seen.toArray clock) w:=by simp [getObj,Sem.run,h3]
      have hgetm:(getObj (ρ m).blk).run P w= .ok (.map (es.map (aY ρ)).toArray clock) w:=by simp [getObj,Sem.run,hm3]
      have hden:(SV.ptr b 0).den ρ= .pointer (some ⟨(ρ b).blk,0,none⟩):=by simp [SV.den,h0]
      obtain⟨e,k1,k2,k3⟩:=Ea hz hes;refine⟨?_,k3⟩;rw [yj]at hst;have hback:seen.toArray.back? =some st:=by rw [List.back?_toArray];exact hst
      rw [hden,k2];simp only [Instr.entry,Sem.run_bind,hget,Result.andThen_ok,hback,hgetm,bne_self_eq_false,Bool.false_eq_true,if_false];simp [k1]
    ·cases hz
   ·cases hz
 ·rename_i i
  cases hop:h.M.X.op with
  |true=>
   rw [hop]at hz;simp only [cond_true]at hz
   split at hz
   ·rename_i v hv
    injection hz with hz;subst hz
    exact⟨Gc hv H,trivial⟩
   ·cases hz
  |false=>rw [hop]at hz;cases hz
 ·cases hz
def unsB(P:Program)(s d:TypeDesc)(cs:List SV)(es τ o:Nat):Bool:=match s,d with
 | .pointer t,.unsafePointer=>(match P.info? t with
   |some j=>bif Nat.beq j.size 0 then false else Nat.blt o cs.length
   |none=>false)
 | .unsafePointer,.pointer u=>(match P.info? u with
   |some _=>bif Nat.beq es 0 then(match τ with
    |0=>false
    |e+1=>liesAt P P.depth e (cs.length/P.cellsOf e) o u 1)else false
   |none=>false)
 |_,_=>false
def unsV(P:Program)(h:HS)(src dst:TypeId)(x:SV):Option SV:=match x with
 | .ptr b o=>match ty P src,ty P dst,h.H.get b with
   |some s,some d,some (.cells cs es τ)=>bif unsB P s.und d.und cs es τ o then some (.ptr b o)else none
   |_,_,_=>none
 |_=>none
theorem En{P:Program}{h:HS}{src dst:TypeId}{x z:SV}(hz:unsV P h src dst x=some z){ρ:Nat→Loc}{w:World}(H:ba ρ h w):(convert src dst (x.den ρ)).run P w= .ok (z.den ρ) w∧z.lt ρ h.nx:=by
 unfold unsV at hz
 split at hz
 ·rename_i b o
  split at hz
  ·rename_i s d cs es τ hs hd hb
   cases hu:unsB P s.und d.und cs es τ o with
   |false=>rw [hu]at hz;cases hz
   |true=>
    rw [hu]at hz;simp only [cond_true,Option.some.injEq]at hz;subst hz;obtain⟨hlt,_,c,t',fz,h3,h4,h5,h7,h6⟩:=H.blk b _ hb;refine⟨?_,hlt⟩;have hus:=(bZ hs).und;have hud:=(bZ hd).und;have hsh:w.shape? (ρ b).blk=some (t',c.size):=by unfold World.shape?;rw [h3]
    unfold unsB at hu
    split at hu
    ·rename_i t hst hdt
     split at hu
     ·rename_i j hj
      cases h0:Nat.beq j.size 0 with
      |true=>rw [h0]at hu;exact absurd hu Bool.false_ne_true
      |false=>
       rw [h0]at hu;have hol:o<cs.length:=Nat.le_of_ble_eq_true hu;have hcell:=h4 o cs[o] (List.getElem?_eq_getElem hol);have hlt2:=(Array.getElem?_eq_some_iff.1 hcell).1;have hj0:j.size≠0:=fun e=>by rw [e]at h0;cases h0
       rw [hst]at hus;rw [hdt]at hud
       exact Lib.run_to_unsafe w (⟨(ρ b).blk,(ρ b).off+o,none⟩:Addr) hus hud hj hj0 hsh hlt2
     ·exact absurd hu Bool.false_ne_true
    ·rename_i u hst hdt
     split at hu
     ·rename_i j hj
      cases he:Nat.beq es 0 with
      |false=>rw [he]at hu;exact absurd hu Bool.false_ne_true
      |true=>
       rw [he]at hu;simp only [cond_true]at hu
       cases τ with
       |zero=>exact absurd hu Bool.false_ne_true
       |succ e=>
        have he:=Nat.eq_of_beq_eq_true he;rcases h6.2 with h8|⟨h8,h9,h10⟩
        ·cases h8
        ·have:e=t':=by omega
         subst this;rw [hst]at hus;rw [hdt]at hud
         have hlies:liesAt P P.depth e (c.size/P.cellsOf e) ((ρ b).off+o) u 1=true:=by
          rw [h9,Nat.zero_add,h10 he];exact hu
         exact Lib.run_from_unsafe w (⟨(ρ b).blk,(ρ b).off+o,none⟩:Addr) hus hud hj hsh hlies
     ·exact absurd hu Bool.false_ne_true
    ·exact absurd hu Bool.false_ne_true
  ·cases hz
 ·cases hz
def cvV(P:Program)(h:HS)(s d:TypeId)(x:SV):Option SV:=match unsV P h s d x with
 |some v=>some v
 |none=>zl P h s d x
theorem cvV_run{P:Program}{h:HS}{src dst:TypeId}{x z:SV}(hz:cvV P h src dst x=some z){ρ:Nat→Loc}{w:World}(H:ba ρ h w):(convert src dst (x.den ρ)).run P w= .ok (z.den ρ) w∧z.lt ρ h.nx:=by
 unfold cvV at hz
 split at hz
 ·rename_i v hv
  injection hz with hz;subst hz
  exact En hv H
 ·exact zk hz H
def sdV(x:SV):Option SV:=match x with
 | .slc b o l _=>bif Nat.beq l 0 then none else some (.ptr b o)
 | .v (.slice none _ _)=>some (.v (.pointer none))
 |_=>none
theorem sdV_run{P:Program}{x z:SV}(hz:sdV x=some z){ρ:Nat→Loc}{n:Nat}(hx:x.lt ρ n)(w:World)(ts:Array TypeId)(u:TypeId):(Builtin.unsafeSliceData_ ts u #[x.den ρ]).run P w= .ok (z.den ρ) w∧z.lt ρ n:=by
 unfold sdV at hz
 split at hz
 ·rename_i b o l c
  cases hl:Nat.beq l 0 with
  |true=>rw [hl]at hz;cases hz
  |false=>
   rw [hl]at hz;simp only [cond_false,Option.some.injEq]at hz;subst hz;have hl0:l≠0:=fun e=>by rw [e]at hl;cases hl
   have hle:l≤c.den ρ:=hx.2.2;refine⟨?_,hx.1⟩;have hc:c.den ρ≠0:=by omega
   simp only [SV.den]
   have hdef:Builtin.unsafeSliceData_ ts u #[.slice (some ⟨(ρ b).blk,(ρ b).off+o,none⟩) l (c.den ρ)]=
    (do
      if c.den ρ≠0 then pure (.pointer (some ⟨(ρ b).blk,(ρ b).off+o,none⟩))
      else if (←viewAt (ρ b).blk).isSome then pure (.pointer (some ⟨(ρ b).blk,(ρ b).off+o,none⟩))
      else pure (.pointer (some ⟨←newObj (.view ⟨(ρ b).blk,(ρ b).off+o,none⟩ (←elemOf u)),0,none⟩))):=rfl
   rw [hdef,if_pos hc];rfl
 ·simp only [Option.some.injEq]at hz
  subst hz;exact⟨rfl,trivial⟩
 ·cases hz
theorem ba.frozen{ρ:Nat→Loc}{h:HS}{w:World}(H:ba ρ h w){b:Nat}{B:bS}(hb:h.H.get b=some B)(n:Nat):ba ρ { h with H:=h.H.del b } (w.freeze ⟨(ρ b).blk,0,none⟩ n):=by
 have other:∀k,k≠(ρ b).blk→(w.freeze ⟨(ρ b).blk,0,none⟩ n).heap[k]? =w.heap[k]? :=fun k hk=>by
  unfold World.freeze
  split
  ·rfl
  ·show(w.heap.modify (ρ b).blk _)[k]? =_
   rw [Array.getElem?_modify,if_neg (Ne.symm hk)]
 refine⟨?_,?_,?_,fun k o hk=> ?_,fun b' B' hb'=> ?_,fun b1 b2 B1 B2 h1 h2 he=> ?_,fun b' B' hb'=> ?_,fun k o hk=> ?_,fun b' B' hb'=> ?_,H.disj⟩
 ·rw [←H.os];unfold World.freeze;split<;>rfl
 ·rw [←H.out];unfold World.freeze;split<;>rfl
 ·rw [←H.tape];unfold World.freeze;split<;>rfl
 ·have hne:k≠(ρ b).blk:=fun e=>by
    have:=H.apart b B hb;rw [←e]at this;have hk:h.M.blk k=some o:=hk;rw [hk]at this;cases this
  rw [other k hne];exact H.mem k o hk
 ·obtain⟨hne,hg⟩:=T.dD hb'
  obtain⟨k1,k2,k3⟩:=H.blk b' B' hg;refine⟨k1,k2,k3.of (Ext.refl ρ h.nx) k2 (other _ fun e=>hne (H.inj b' b B' B hg hb e))⟩
 ·exact H.inj b1 b2 B1 B2 (T.dD h1).2 (T.dD h2).2 he
 ·exact H.apart b' B' (T.dD hb').2
 ·have hne:k≠(ρ b).blk:=fun e=>by
    have:=H.aprA b B hb;rw [←e]at this;have hk:h.M.A.blk k=some o:=hk;rw [hk]at this;cases this
  rw [other k hne];exact H.are k o hk
 ·exact H.aprA b' B' (T.dD hb').2
def tn:List SV→Option (List UInt8)
 | []=>some []
 |x::xs=>match x with
  | .v (.int .u8 k)=>bif decide (0≤k)&&decide (k≤255)then(match tn xs with
    |some l=>some (UInt8.ofNat k.toNat::l)
    |none=>none)else none
  |_=>none
theorem qu{ρ:Nat→Loc} :∀ {xs:List SV} {l:List UInt8},tn xs=some l→l.length=xs.length∧∀(j:Nat) (x:UInt8),l[j]? =some x→∃y,xs[j]? =some y∧y.den ρ= .int .u8 x.toNat
 | [],l,h=>by simp only [tn,Option.some.injEq]at h;subst h;exact⟨rfl,fun j x hj=>by simp at hj⟩
 |x::xs,l,h=>by
  simp only [tn]at h
  split at h
  ·rename_i k
   cases hc:decide (0≤k)&&decide (k≤255)with
   |false=>rw [hc]at h;cases h
   |true=>
    rw [hc]at h;simp only [cond_true]at h
    split at h
    ·rename_i l' hl'
     injection h with h;subst h
     obtain⟨h1,h2⟩:=qu (ρ:=ρ) hl';simp only [Bool.and_eq_true,decide_eq_true_eq]at hc;refine⟨by simp [h1],fun j y hj=> ?_⟩
     cases j with
     |zero=>
      simp only [List.getElem?_cons_zero,Option.some.injEq]at hj;subst hj;refine⟨_,rfl,?_⟩
      have:((UInt8.ofNat k.toNat).toNat:Int)=k:=by
       have h3:k.toNat<256:=by omega
       rw [UInt8.toNat_ofNat_of_lt' (by simpa using h3)];omega
      simp only [SV.den,this]
     |succ j=>exact h2 j y (by simpa using hj)
    ·cases h
  ·cases h
def usV(P:Program)(h:HS)(pt:TypeId)(p n:SV)(K:SV→HS→Bool):Bool:=match n with
 | .v (.int .i64 k)=>bif decide (k=0)then(match p with
     | .ptr _ _=>K (.str []) h
     | .v (.pointer none)=>K (.str []) h
     |_=>false)
   else match p with
    | .ptr b o=>match h.H.get b with
      |some (.cells cs _ τ)=>match τ with
       |0=>false
       |e+1=>match takeN k.toNat cs with
        |some r=>match tn r with
         |some bs=>match ty P pt with
          |some s=>match s.und with
           | .pointer e'=>bif Nat.beq e' e&&Nat.beq o 0&&Nat.beq (P.cellsOf e) 1&&decide (k=(bs.length:Int))&&decide (k≤9223372036854775807)then K (.str bs) { h with H:=h.H.del b } else false
           |_=>false
          |none=>false
         |none=>false
        |none=>false
      |_=>false
    |_=>false
 |_=>false
theorem usV_run{P:Program}{h:HS}{pt it u:TypeId}{p n:SV}{K:SV→HS→Bool}(hk:usV P h pt p n K=true){ρ:Nat→Loc}{w:World}(H:ba ρ h w):
  ∃v w',(Builtin.unsafeString_ #[pt,it] u #[p.den ρ,n.den ρ]).run P w= .ok v w'∧dT ρ h K v w':=by
 unfold usV at hk
 split at hk
 ·rename_i k
  cases h0:decide (k=0)with
  |true=>
   rw [h0]at hk;have h0:=of_decide_eq_true h0;subst h0;simp only [cond_true]at hk
   split at hk
   ·exact⟨_,w,Lib.run_unsafeString_none w pt it u _,.str [],h,ρ,hk,rfl,trivial,H,Ext.refl _ _,Nat.le_refl _,Mem.le_refl _⟩
   ·exact⟨_,w,Lib.run_unsafeString_none w pt it u _,.str [],h,ρ,hk,rfl,trivial,H,Ext.refl _ _,Nat.le_refl _,Mem.le_refl _⟩
   ·exact absurd hk Bool.false_ne_true
  |false=>
   rw [h0]at hk;have hk0:k≠0:=of_decide_eq_false h0;simp only [cond_false]at hk
   split at hk
   ·rename_i b o
    split at hk
    ·rename_i cs es τ hb
     cases τ with
     |zero=>exact absurd hk Bool.false_ne_true
     |succ e=>
      simp only at hk
      split at hk
      ·rename_i r hr
       split at hk
       ·rename_i bs hbs
        split at hk
        ·rename_i s hs
         split at hk
         ·rename_i e' hd
          cases hc:Nat.beq e' e&&Nat.beq o 0&&Nat.beq (P.cellsOf e) 1&&decide (k=(bs.length:Int))&&decide (k≤9223372036854775807)with
          |false=>rw [hc]at hk;exact absurd hk Bool.false_ne_true
          |true=>
           rw [hc]at hk;simp only [cond_true]at hk;simp only [Bool.and_eq_true,decide_eq_true_eq]at hc;obtain⟨⟨⟨⟨c1,c2⟩,c3⟩,c4⟩,c5⟩:=hc;have c1:=Nat.eq_of_beq_eq_true c1;have c2:=Nat.eq_of_beq_eq_true c2;have c3:=Nat.eq_of_beq_eq_true c3;subst c1;subst c2
           obtain⟨_,_,c,t',fz,h3,h4,h5,h7,h6⟩:=H.blk b _ hb;rcases h6.2 with h8|⟨h8,h9,_⟩
           ·cases h8
           ·have:e'=t':=Nat.succ.inj h8
            subst this;obtain⟨r1,r2⟩:=gA hr;obtain⟨b1,b2⟩:=qu (ρ:=ρ) hbs;have hu:=(bZ hs).und;rw [hd]at hu;have hsh:w.shape? (ρ b).blk=some (e',c.size):=by unfold World.shape?;rw [h3]
            have hcell:∀j x,bs[j]? =some x→w.cell? ((⟨(ρ b).blk,0,none⟩:Addr).add j)=some (.int .u8 x.toNat):=fun j x hj=>by
             obtain⟨y,hy,hd'⟩:=b2 j x hj;have:=h4 j y (r2 j y hy);rw [h9,Nat.zero_add]at this;rw [db,Nat.zero_add,mo h3,this,hd']
            have hne:bs≠ []:=fun e=>by rw [e]at c4;exact hk0 (by simpa using c4)
            have hle:bs.length≤c.size:=by
             have hpos:0<bs.length:=List.length_pos_iff.2 hne;obtain⟨y,hy,_⟩:=b2 (bs.length-1) bs[bs.length-1] (List.getElem?_eq_getElem (by omega));have:=h4 _ y (r2 _ y hy);have:=(Array.getElem?_eq_some_iff.1 this).1;omega
            have key:=Lib.run_unsafeString_row (P:=P) w pt it u e' hu c3 (ρ b).blk c.size hsh bs hne hle (by omega) hcell;refine⟨_,_,?_,.str bs,_,ρ,hk,rfl,trivial,H.frozen hb bs.length,Ext.refl _ _,Nat.le_refl _,Mem.le_refl _⟩;have e1:(SV.ptr b 0).den ρ= .pointer (some ⟨(ρ b).blk,0,none⟩):=by simp [SV.den,h9]
            have e2:(SV.v (.int .i64 k)).den ρ= .int .i64 bs.length:=by simp [SV.den,c4]
            rw [e1,e2];exact key
         ·exact absurd hk Bool.false_ne_true
        ·exact absurd hk Bool.false_ne_true
       ·exact absurd hk Bool.false_ne_true
      ·exact absurd hk Bool.false_ne_true
    ·exact absurd hk Bool.false_ne_true
   ·exact absurd hk Bool.false_ne_true
 ·exact absurd hk Bool.false_ne_true
end
end Go.Sx
