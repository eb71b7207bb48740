/-
  Parts of the proof: SxS SxK SxL SxM SxR
-/
import Derived.Test.YtmmlhdiejkknnaaGreatDoorG03
import Derived.Lib.Builder
import Derived.Lib.UnsafeStr
import Derived.Laws.BytesArg
import Derived.Laws.IdiomStrings
import Derived.Orders
import Derived.LoopN
import Derived.Scope
set_option maxRecDepth 100000
set_option maxHeartbeats 0
namespace Go.Sx
noncomputable section
def o4:TypeDesc→Bool
 | .int .u8=>true
 |_=>false
theorem pz{d:TypeDesc}(h:o4 d=true):d= .int .u8:=by
 unfold o4 at h
 split at h
 ·rfl
 ·cases h
def bytesA(h:HS)(e:TypeId)(l:List UInt8)(K:SV→HS→Bool):Bool:=
 h.M.D (∀(g cap:Nat) (A':aa) (c:Array Value) (zs:List Value),l.length≤cap→c.toList=l.map (fun b=>Value.int .u8 b.toNat)++zs→zs.length=cap-l.length→h.M.A.blk g=none→A'.blk g=some (.cells c e (c.size,c.size+1))→
  (∀k,k≠g→A'.blk k=h.M.A.blk k)→K (.v (.slice (some ⟨g,0,none⟩) l.length cap)) (h.put A')=true)
def yJ(P:Program)(h:HS)(src dst:TypeId)(x:SV)(K:SV→HS→Bool):Bool:=
 match ty P src,ty P dst with
 |some s,some d=>match s.und,d.und with
  | .string,.slice e=>match ty P e,x.str? with
    |some se,some l=>bif o4 se.und then(bif h.M.X.op then bytesA h e l K else K (.slc h.nx 0 l.length (.sub h.nx 0)) (h.new (.cells (jC l) 1 0)))else false
    |_,_=>false
  |_,_=>false
 |_,_=>false
theorem yI{P:Program}{h:HS}{src dst:TypeId}{x:SV}{K:SV→HS→Bool}(hk:yJ P h src dst x K){ρ:Nat→Loc}{w:World}(H:aL ρ h w):
  ∃v w',(convert src dst (x.den ρ)).run P w= .ok v w'∧cT ρ h K v w':=by
 unfold yJ at hk
 split at hk
 ·rename_i s d hs hd
  split at hk
  ·rename_i e hsu hdu
   split at hk
   ·rename_i se l hse hl
    cases hb:o4 se.und with
    |false=>rw [hb]at hk;exact absurd hk Bool.false_ne_true
    |true=>
     rw [hb]at hk;simp only [cond_true]at hk;have h1:P.underlying src=some .string:=by rw [(bK hs).und,hsu]
     have h2:P.underlying dst=some (.slice e):=by rw [(bK hd).und,hdu]
     have h3:P.underlying e=some (.int .u8):=by rw [(bK hse).und,pz hb]
     rw [SV.bF hl];have hrun:=run_bytes_of_string (P:=P) w src dst e ⟨l.toArray⟩ h1 h2 h3;have hsz:(⟨l.toArray⟩:ByteArray).size=l.length:=by show l.toArray.size=_;simp
     have hge:=grownCap_ge w (⟨l.toArray⟩:ByteArray).size 0 e;generalize grownCap w (⟨l.toArray⟩:ByteArray).size 0 e=cap at hrun hge
     have hcs:(bytesRow ⟨l.toArray⟩ cap).size=cap:=by
      unfold bytesRow;have:(⟨l.toArray⟩:ByteArray).data.size=(⟨l.toArray⟩:ByteArray).size:=rfl;rw [Array.size_append,Array.size_map,Array.size_replicate,this];omega
     cases hop:h.M.X.op with
     |true=>
      rw [hop]at hk;simp only [cond_true]at hk;have hk:=(h.M.X.hD _).1 hk;obtain⟨A',k1,k2,k3,k4⟩:=jf H (.cells (bytesRow ⟨l.toArray⟩ cap) e ((bytesRow ⟨l.toArray⟩ cap).size,(bytesRow ⟨l.toArray⟩ cap).size+1)) (w.drawn+1);refine⟨_,_,hrun,_,_,ρ,hk w.heap.size cap A' _ (List.replicate (cap-l.length) (.int .u8 0)) (by omega) ?_ (by rw [List.length_replicate]) k1 k2 k3,?_,trivial,k4,Ext.refl _ _,Nat.le_refl _,Mem.cH _ _⟩
      ·unfold bytesRow
       have h0:(⟨l.toArray⟩:ByteArray).data=l.toArray:=rfl;rw [Array.toList_append,Array.toList_map,h0,Array.toList_replicate,hsz]
      ·rw [hsz];rfl
     |false=>
     rw [hop]at hk;simp only [cond_false]at hk;refine⟨_,_,hrun,_,_,extend ρ h.nx ⟨w.heap.size,0,cap⟩,hk,?_,⟨Nat.lt_succ_self _,Nat.lt_succ_self _,?_⟩,?_,aS _ _ _,Nat.le_succ _,Mem.le_refl _⟩
     ·simp [SV.den,cJ.den,bb,hsz]
     ·simp only [cJ.den,bb];omega
     ·refine(H.drawn (w.drawn+1)).alloc (B:= .cells (jC l) 1 0) (L:=⟨w.heap.size,0,cap⟩) rfl (fun y hy=> ?_) fun w' hw'=>⟨_,_,_,hw',fun i y hi=> ?_,?_,.inr ?_,⟨.inr (Nat.le_refl _),.inl rfl⟩⟩
      ·obtain⟨b,_,rfl⟩:=List.mem_map.1 hy;trivial
      ·unfold jC at hi
       rw [List.getElem?_map]at hi
       cases hli:l[i]? with
       |none=>rw [hli]at hi;cases hi
       |some b=>
        rw [hli]at hi;injection hi with hi;subst hi
        have hlt:=(List.getElem?_eq_some_iff.1 hli).1;show(bytesRow ⟨l.toArray⟩ cap)[0+i]? =_
        unfold bytesRow;rw [Nat.zero_add,Array.getElem?_append_left (by simpa using hlt)];simp [hli,SV.den]
      ·show 0+cap*1≤_
       rw [hcs];omega
      ·simp only [jC,List.length_map]
       show l.length≤cap*1
       omega
   ·exact absurd hk Bool.false_ne_true
  ·exact absurd hk Bool.false_ne_true
 ·exact absurd hk Bool.false_ne_true
def DF(P:Program)(h:HS)(src dst:TypeId)(x:SV)(K:SV→HS→Bool):Bool:=
 match ty P src with
 |some s=>match s.und with
  | .slice e=>match ty P e,x with
    |some se,.slc b o l c=>match h.H.get b with
     |some (.cells cs es τ)=>bif o4 se.und&&Nat.beq src dst then K (.slc b o l c) { h with H:=h.H.set b (.cells cs es τ) } else false
     |_=>false
    |_,_=>false
  |_=>false
 |none=>false
theorem Ba{P:Program}{h:HS}{src dst:TypeId}{x:SV}{K:SV→HS→Bool}(hk:DF P h src dst x K){ρ:Nat→Loc}{w:World}(H:aL ρ h w)(hx:x.lt ρ h.nx):
  ∃v w',(convert src dst (x.den ρ)).run P w= .ok v w'∧cT ρ h K v w':=by
 unfold DF at hk
 split at hk
 ·rename_i s hs
  split at hk
  ·rename_i e hsu
   split at hk
   ·rename_i se b o l c hse
    split at hk
    ·rename_i cs es τ hb
     cases hc:o4 se.und&&Nat.beq src dst with
     |false=>rw [hc]at hk;exact absurd hk Bool.false_ne_true
     |true=>
      rw [hc]at hk;simp only [Bool.and_eq_true]at hc;simp only [cond_true]at hk;have heq:=Nat.eq_of_beq_eq_true hc.2;subst heq;obtain⟨_,h2,C,t,fz,h3,h4,h5,h7,h6⟩:=H.blk b _ hb;have hshape:w.shape? (ρ b).blk=some (t,C.size):=by unfold World.shape?;rw [h3]
      have hlt:=(Array.getElem?_eq_some_iff.1 h3).1
      have hfz:(w.freeze ⟨(ρ b).blk,C.size,none⟩ 1).heap[(ρ b).blk]? =some (.cells C t (if fz.1==fz.2 then(C.size,C.size+1)else(min fz.1 C.size,max fz.2 (C.size+1)))):=by
       unfold World.freeze;rw [if_neg (by decide)];show(w.heap.modify (ρ b).blk _)[(ρ b).blk]? =_
       rw [Array.getElem?_modify,if_pos rfl,h3];rfl
      refine⟨_,w.freeze ⟨(ρ b).blk,C.size,none⟩ 1,?_,_,_,ρ,hk,rfl,hx,?_,Ext.refl _ _,Nat.le_refl _,Mem.le_refl _⟩
      ·simp [convert,aq w hs,hsu,aq w hse,pz hc.1,SV.den,markStringish,hshape]
      ·refine H.write hb h2 ⟨C,t,_,hfz,h4,h5,h7,?_⟩ (fun k hk=> ?_) rfl rfl rfl
       ·by_cases he:fz.1=fz.2
        ·rw [if_pos (by simpa using he)];exact⟨.inr (Nat.le_refl _),h6.2⟩
        ·rw [if_neg (by simpa using he)]
         have:=h6.1.resolve_left he;exact⟨.inr (by show C.size≤min fz.1 C.size;omega),h6.2⟩
       ·show(World.freeze w ⟨(ρ b).blk,C.size,none⟩ 1).heap[k]? =_
        unfold World.freeze;rw [if_neg (by decide)];show(w.heap.modify (ρ b).blk _)[k]? =_
        rw [Array.getElem?_modify,if_neg (Ne.symm hk)]
    ·exact absurd hk Bool.false_ne_true
   ·exact absurd hk Bool.false_ne_true
  ·exact absurd hk Bool.false_ne_true
 ·exact absurd hk Bool.false_ne_true
def DG(P:Program)(h:HS)(src dst:TypeId)(a:Addr)(n c:Nat)(K:SV→HS→Bool):Bool:=
 match ty P src with
 |some s=>match s.und with
  | .slice e=>match ty P e with
    |some se=>bif o4 se.und&&Nat.beq src dst then
       h.M.D (∃cs t,h.M.A.blk a.block=some (.cells cs t (0,0))∧∀A':aa,A'.blk a.block=some (.cells cs t (cs.size,cs.size+1))→(∀k,k≠a.block→A'.blk k=h.M.A.blk k)→K (.v (.slice (some a) n c)) (h.put A')=true)
     else false
    |none=>false
  |_=>false
 |none=>false
theorem Bb{P:Program}{h:HS}{src dst:TypeId}{a:Addr}{n c:Nat}{K:SV→HS→Bool}(hk:DG P h src dst a n c K){ρ:Nat→Loc}{w:World}(H:aL ρ h w):
  ∃v w',(convert src dst (.slice (some a) n c)).run P w= .ok v w'∧cT ρ h K v w':=by
 unfold DG at hk
 split at hk
 ·rename_i s hs
  split at hk
  ·rename_i e hsu
   split at hk
   ·rename_i se hse
    cases hc:o4 se.und&&Nat.beq src dst with
    |false=>rw [hc]at hk;exact absurd hk Bool.false_ne_true
    |true=>
     rw [hc]at hk;simp only [Bool.and_eq_true]at hc;simp only [cond_true]at hk;have heq:=Nat.eq_of_beq_eq_true hc.2;subst heq;obtain⟨cs,t,hb,hk⟩:=(h.M.X.hD _).1 hk;have h3:w.heap[a.block]? =some (.cells cs t (0,0)):=H.are _ _ hb;have hshape:w.shape? a.block=some (t,cs.size):=by unfold World.shape?;rw [h3]
     have hother:∀k,k≠a.block→(w.freeze ⟨a.block,cs.size,none⟩ 1).heap[k]? =w.heap[k]? :=fun k hk=>by
      unfold World.freeze;rw [if_neg (by decide)];show(w.heap.modify a.block _)[k]? =_
      rw [Array.getElem?_modify,if_neg (Ne.symm hk)]
     have hself:(w.freeze ⟨a.block,cs.size,none⟩ 1).heap[a.block]? =some (.cells cs t (cs.size,cs.size+1)):=by
      unfold World.freeze;rw [if_neg (by decide)];show(w.heap.modify a.block _)[a.block]? =_
      rw [Array.getElem?_modify,if_pos rfl,h3];rfl
     have hA1:(aa.of fun k=>if k=a.block then some (.cells cs t (cs.size,cs.size+1))else h.M.A.blk k).blk a.block=some (.cells cs t (cs.size,cs.size+1)):=by
      show(if a.block=a.block then _ else _)=_
      rw [if_pos rfl]
     have hA2:∀k,k≠a.block→(aa.of fun k=>if k=a.block then some (.cells cs t (cs.size,cs.size+1))else h.M.A.blk k).blk k=h.M.A.blk k:=fun k hk=>by
      show(if k=a.block then _ else _)=_
      rw [if_neg hk]
     refine⟨_,w.freeze ⟨a.block,cs.size,none⟩ 1,?_,.v (.slice (some a) n c),_,ρ,hk _ hA1 hA2,rfl,trivial,H.sS rfl rfl rfl (fun k hn _=> ?_) (fun k o ho=> ?_) (fun k o ho=> ?_),Ext.refl _ _,Nat.le_refl _,Mem.cH _ _⟩
     ·simp [convert,aq w hs,hsu,aq w hse,pz hc.1,markStringish,hshape]
      rfl
     ·exact hother k fun e=>by rw [e,hb]at hn;cases hn
     ·by_cases e:k=a.block
      ·rw [e]at ho ⊢
       rw [hA1]at ho;rw [hself];exact ho
      ·rw [hA2 k e]at ho
       rw [hother k e];exact H.are _ _ ho
     ·by_cases e:k=a.block
      ·rw [e];exact .inl ⟨_,hb⟩
      ·rw [hA2 k e]at ho
       exact .inl ⟨o,ho⟩
   ·exact absurd hk Bool.false_ne_true
  ·exact absurd hk Bool.false_ne_true
 ·exact absurd hk Bool.false_ne_true
def zT(P:Program)(h:HS)(src dst:TypeId)(x:SV)(K:SV→HS→Bool):Bool:=
 match x with
 | .slc b o l c=>DF P h src dst (.slc b o l c) K
 | .v (.slice (some a) n c)=>DG P h src dst a n c K
 |x=>yJ P h src dst x K
theorem BR{P:Program}{h:HS}{src dst:TypeId}{x:SV}{K:SV→HS→Bool}(hk:zT P h src dst x K){ρ:Nat→Loc}{w:World}(H:aL ρ h w)(hx:x.lt ρ h.nx):
  ∃v w',(convert src dst (x.den ρ)).run P w= .ok v w'∧cT ρ h K v w':=by
 unfold zT at hk
 split at hk
 ·exact Ba hk H hx
 ·exact Bb hk H
 ·exact yI hk H
def bytesOf:List SV→Option (List UInt8)
 | []=>some []
 |x::xs=>match x with
  | .v (.int .u8 n)=>match bytesOf xs with
    |some l=>some (UInt8.ofNat n.toNat::l)
    |none=>none
  |_=>none
theorem uu{ρ:Nat→Loc} :∀ {xs:List SV} {l:List UInt8},bytesOf xs=some l→∃ns:List Int,xs.map (SV.den ρ)=ns.map (Value.int .u8)∧l=ns.map fun n=>UInt8.ofNat n.toNat:=by
 intro xs
 induction xs with
 |nil=>intro l h;injection h with h;subst h;exact⟨[],rfl,rfl⟩
 |cons x xs ih=>
  intro l h;simp only [bytesOf]at h
  split at h
  ·rename_i n
   split at h
   ·rename_i l' hl'
    injection h with h;subst h
    obtain⟨ns,h1,h2⟩:=ih hl';exact⟨n::ns,by simp [h1,SV.den],by simp [h2]⟩
   ·cases h
  ·cases h
def ff:List Value→Option (List UInt8)
 | []=>some []
 |v::vs=>match v with
  | .int .u8 n=>match ff vs with
    |some l=>some (UInt8.ofNat n.toNat::l)
    |none=>none
  |_=>none
theorem ur:∀ {vs:List Value} {l:List UInt8},ff vs=some l→∃ns:List Int,vs=ns.map (Value.int .u8)∧l=ns.map fun n=>UInt8.ofNat n.toNat:=by
 intro vs
 induction vs with
 |nil=>intro l h;injection h with h;subst h;exact⟨[],rfl,rfl⟩
 |cons v vs ih=>
  intro l h;simp only [ff]at h
  split at h
  ·rename_i n
   split at h
   ·rename_i l' hl'
    injection h with h;subst h
    obtain⟨ns,h1,h2⟩:=ih hl';exact⟨n::ns,by simp [h1],by simp [h2]⟩
   ·cases h
  ·cases h
def strA(h:HS)(a:Addr)(n:Nat):Option SV:=bif Nat.beq n 0 then some (.str [])else match a with
 |⟨g,o,none⟩=>match h.M.A.rd g o n with
  |some vs=>match ff vs with
   |some bs=>some (.v (.string ⟨bs.toArray⟩))
   |none=>none
  |none=>none
 |_=>none
def th(P:Program)(h:HS)(src dst:TypeId)(x:SV):Option SV:=
 match ty P src,ty P dst with
 |some s,some d=>match s.und,d.und with
  | .slice e,.string=>match ty P e with
    |some se=>bif o4 se.und then(match x with
     | .slc b o l _=>match h.H.get b with
       |some (.cells cs _ _)=>match takeN l (cs.drop o)with
        |some r=>match bytesOf r with
         |some bs=>some (.str bs)
         |none=>none
        |none=>none
       |_=>none
     | .v (.slice none _ _)=>some (.str [])
     | .v (.slice (some a) n _)=>bif h.M.X.op then strA h a n else none
     |_=>none)else none
    |none=>none
  |_,_=>none
 |_,_=>none
theorem xf{P:Program}{h:HS}{src dst:TypeId}{x z:SV}(hz:th P h src dst x=some z){ρ:Nat→Loc}{w:World}(H:aL ρ h w):
  (convert src dst (x.den ρ)).run P w= .ok (z.den ρ) w∧z.lt ρ h.nx:=by
 unfold th at hz
 split at hz
 ·rename_i s d hs hd
  split at hz
  ·rename_i e hsu hdu
   split at hz
   ·rename_i se hse
    cases hb:o4 se.und with
    |false=>rw [hb]at hz;cases hz
    |true=>
     rw [hb]at hz;simp only [cond_true]at hz;have h1:P.underlying src=some (.slice e):=by rw [(bK hs).und,hsu]
     have h2:P.underlying dst=some .string:=by rw [(bK hd).und,hdu]
     have h3:P.underlying e=some (.int .u8):=by rw [(bK hse).und,pz hb]
     split at hz
     ·rename_i b o l c
      split at hz
      ·rename_i cs es τ hbl
       split at hz
       ·rename_i r hr
        split at hz
        ·rename_i bs hbs
         injection hz with hz;subst hz
         refine⟨?_,trivial⟩;obtain⟨_,_,C,t,fz,h4,h5,_⟩:=H.blk b _ hbl;obtain⟨k1,k2⟩:=fw hr;obtain⟨ns,g1,g2⟩:=uu (ρ:=ρ) hbs;have hlen:ns.length=l:=by rw [←k1,←List.length_map (f:=SV.den ρ),g1,List.length_map]
         have hload:=dF (P:=P) (o:=(ρ b).off+o) h4 (r.map (SV.den ρ)) 0 #[] (fun j v hj=>by
          rw [List.getElem?_map]at hj
          cases hx:r[j]? with
          |none=>rw [hx]at hj;cases hj
          |some x=>
           rw [hx]at hj;injection hj with hj;subst hj
           have:=k2 j x hx;rw [List.getElem?_drop]at this;rw [Nat.zero_add,Nat.add_assoc]
           exact h5 (o+j) x this)
         rw [List.length_map,k1,g1]at hload;simp only [SV.den];rw [run_convert_bytes_string w src dst e _ l _ h1 h3 h2,run_bytesToString w _ l _ ns (by simpa [loadCells]using hload),foldl_push_bytes,←g2];simp [ByteArray.empty,ByteArray.emptyWithCapacity];rfl
        ·cases hz
       ·cases hz
      ·cases hz
     ·injection hz with hz;subst hz
      refine⟨?_,trivial⟩;simp only [SV.den];rw [run_convert_bytes_nil w src e h1 h3 _ _ dst h2];rfl
     ·rename_i a n c
      cases hop:h.M.X.op with
      |false=>rw [hop]at hz;cases hz
      |true=>
       rw [hop]at hz;simp only [cond_true]at hz;simp only [SV.den];rw [run_convert_bytes_string w src dst e _ n _ h1 h3 h2];unfold strA at hz
       cases h0:Nat.beq n 0 with
       |true=>
        rw [h0]at hz;have h0:=Nat.eq_of_beq_eq_true h0;subst h0;simp only [cond_true,Option.some.injEq]at hz;subst hz;refine⟨?_,trivial⟩;rw [run_bytesToString w a 0 c [] (by simp [loadCells,loadCellsFrom])];rfl
       |false=>
        rw [h0]at hz;simp only [cond_false]at hz
        split at hz
        ·rename_i g o
         split at hz
         ·rename_i vs hvs
          split at hz
          ·rename_i bs hbs
           injection hz with hz;subst hz
           refine⟨?_,trivial⟩;obtain⟨ns,g1,g2⟩:=ur hbs;have hload:=xy (P:=P) H hvs;rw [g1]at hload;rw [run_bytesToString w _ n c ns (by simpa [loadCells]using hload),foldl_push_bytes,←g2];simp [ByteArray.empty,ByteArray.emptyWithCapacity,SV.den];rfl
          ·cases hz
         ·cases hz
        ·cases hz
     ·cases hz
   ·cases hz
  ·cases hz
 ·cases hz
def zW(st:Nat):List (SV×SV×Nat)→Option SV
 | []=>none
 |e::es=>bif Nat.beq e.2.2 st then some (.tup [e.1,e.2.1])else zW st es
def zx:List Nat→Option Nat
 | []=>none
 |x::xs=>match xs with
  | []=>some x
  |_::_=>zx xs
theorem vF:∀(l:List Nat),zx l=l.getLast?
 | []=>rfl
 | [_]=>rfl
 |_::y::l=>by
  show zx (y::l)=_
  rw [vF (y::l)];simp
def kH(h:HS)(x:SV):Option SV:=
 match x with
 | .ptr b o=>bif Nat.beq o 0 then(match h.H.get b with
   |some (.miter m _ seen last)=>match zx seen,h.H.get m with
    |some st,some (.map es clock)=>bif Nat.beq clock last then zW st es else none
    |_,_=>none
   |_=>none)else none
 | .v (.pointer (some ⟨i,0,none⟩))=>bif h.M.X.op then(match h.M.A.ent i with
   |some v=>some (.v v)
   |none=>none)else none
 |_=>none
theorem Cb{ρ:Nat→Loc}{n st:Nat} :∀ {es:List (SV×SV×Nat)} {z:SV},zW st es=some z→(∀e∈es,e.1.lt ρ n∧e.2.1.lt ρ n)→
  ∃e,(es.map (aQ ρ)).find? (fun e=>e.born==st)=some e∧z.den ρ= .tuple #[e.key,e.val]∧z.lt ρ n:=by
 intro es
 induction es with
 |nil=>intro z h;cases h
 |cons e es ih=>
  intro z h hl;simp only [zW]at h
  cases hb:Nat.beq e.2.2 st with
  |true=>
   rw [hb]at h;injection h with h;subst h
   have:=Nat.eq_of_beq_eq_true hb;obtain⟨l1,l2⟩:=hl e List.mem_cons_self;exact⟨aQ ρ e,by simp [aQ,this],by simp [SV.den,SV.gC,aQ],⟨l1,l2,trivial⟩⟩
  |false=>
   rw [hb]at h;obtain⟨e',h1,h2⟩:=ih h fun e he=>hl e (List.mem_cons_of_mem _ he)
   refine⟨e',?_,h2⟩
   have hne:(e.2.2==st)=false:=by
    cases hq:e.2.2==st with
    |false=>rfl
    |true=>
     have:e.2.2=st:=by simpa using hq
     rw [this,Nat.beq_refl]at hb;cases hb
   rw [List.map_cons,List.find?_cons];have:((aQ ρ e).born==st)=false:=hne;rw [this];exact h1
theorem yw{P:Program}{h:HS}{x z:SV}(hz:kH h x=some z){ρ:Nat→Loc}{w:World}(H:aL ρ h w):(Instr.entry (x.den ρ)).run P w= .ok (z.den ρ) w∧z.lt ρ h.nx:=by
 unfold kH at hz
 split at hz
 ·rename_i b o
  cases ho:Nat.beq o 0 with
  |false=>rw [ho]at hz;cases hz
  |true=>
   rw [ho]at hz;have ho:=Nat.eq_of_beq_eq_true ho;subst ho;simp only [cond_true]at hz
   split at hz
   ·rename_i m since seen last hb
    split at hz
    ·rename_i st es clock hst hm
     cases hc:Nat.beq clock last with
     |false=>rw [hc]at hz;cases hz
     |true=>
      rw [hc]at hz;simp only [cond_true]at hz;have hc:=Nat.eq_of_beq_eq_true hc;subst hc;obtain⟨_,_,h0,h3⟩:=H.blk b _ hb;obtain⟨_,hes,hm3⟩:=H.blk m _ hm;have hm3:w.heap[(ρ m).blk]? =some (.map (es.map (aQ ρ)).toArray clock):=hm3;have hget:(getObj (ρ b).blk).run P w= .ok (.mapIter (some (ρ m).blk) since seen.toArray clock) w:=by simp [getObj,Sem.run,h3]
      have hgetm:(getObj (ρ m).blk).run P w= .ok (.map (es.map (aQ ρ)).toArray clock) w:=by simp [getObj,Sem.run,hm3]
      have hden:(SV.ptr b 0).den ρ= .pointer (some ⟨(ρ b).blk,0,none⟩):=by simp [SV.den,h0]
      obtain⟨e,k1,k2,k3⟩:=Cb hz hes;refine⟨?_,k3⟩;rw [vF]at hst;have hback:seen.toArray.back? =some st:=by rw [List.back?_toArray];exact hst
      rw [hden,k2];simp only [Instr.entry,Sem.run_bind,hget,Result.andThen_ok,hback,hgetm,bne_self_eq_false,Bool.false_eq_true,if_false];simp [k1]
    ·cases hz
   ·cases hz
 ·rename_i i
  cases hop:h.M.X.op with
  |true=>
   rw [hop]at hz;simp only [cond_true]at hz
   split at hz
   ·rename_i v hv
    injection hz with hz;subst hz
    exact⟨Ej hv H,trivial⟩
   ·cases hz
  |false=>rw [hop]at hz;cases hz
 ·cases hz
def unsB(P:Program)(s d:TypeDesc)(cs:List SV)(es τ o:Nat):Bool:=match s,d with
 | .pointer t,.unsafePointer=>(match P.info? t with
   |some j=>bif Nat.beq j.size 0 then false else Nat.blt o cs.length
   |none=>false)
 | .unsafePointer,.pointer u=>(match P.info? u with
   |some _=>bif Nat.beq es 0 then(match τ with
    |0=>false
    |e+1=>liesAt P P.depth e (cs.length/P.cellsOf e) o u 1)else false
   |none=>false)
 |_,_=>false
def unsV(P:Program)(h:HS)(src dst:TypeId)(x:SV):Option SV:=match x with
 | .ptr b o=>match ty P src,ty P dst,h.H.get b with
   |some s,some d,some (.cells cs es τ)=>bif unsB P s.und d.und cs es τ o then some (.ptr b o)else none
   |_,_,_=>none
 |_=>none
theorem Cq{P:Program}{h:HS}{src dst:TypeId}{x z:SV}(hz:unsV P h src dst x=some z){ρ:Nat→Loc}{w:World}(H:aL ρ h w):(convert src dst (x.den ρ)).run P w= .ok (z.den ρ) w∧z.lt ρ h.nx:=by
 unfold unsV at hz
 split at hz
 ·rename_i b o
  split at hz
  ·rename_i s d cs es τ hs hd hb
   cases hu:unsB P s.und d.und cs es τ o with
   |false=>rw [hu]at hz;cases hz
   |true=>
    rw [hu]at hz;simp only [cond_true,Option.some.injEq]at hz;subst hz;obtain⟨hlt,_,c,t',fz,h3,h4,h5,h7,h6⟩:=H.blk b _ hb;refine⟨?_,hlt⟩;have hus:=(bK hs).und;have hud:=(bK hd).und;have hsh:w.shape? (ρ b).blk=some (t',c.size):=by unfold World.shape?;rw [h3]
    unfold unsB at hu
    split at hu
    ·rename_i t hst hdt
     split at hu
     ·rename_i j hj
      cases h0:Nat.beq j.size 0 with
      |true=>rw [h0]at hu;exact absurd hu Bool.false_ne_true
      |false=>
       rw [h0]at hu;have hol:o<cs.length:=Nat.le_of_ble_eq_true hu;have hcell:=h4 o cs[o] (List.getElem?_eq_getElem hol);have hlt2:=(Array.getElem?_eq_some_iff.1 hcell).1;have hj0:j.size≠0:=fun e=>by rw [e]at h0;cases h0
       rw [hst]at hus;rw [hdt]at hud
       exact Lib.run_to_unsafe w (⟨(ρ b).blk,(ρ b).off+o,none⟩:Addr) hus hud hj hj0 hsh hlt2
     ·exact absurd hu Bool.false_ne_true
    ·rename_i u hst hdt
     split at hu
     ·rename_i j hj
      cases he:Nat.beq es 0 with
      |false=>rw [he]at hu;exact absurd hu Bool.false_ne_true
      |true=>
       rw [he]at hu;simp only [cond_true]at hu
       cases τ with
       |zero=>exact absurd hu Bool.false_ne_true
       |succ e=>
        have he:=Nat.eq_of_beq_eq_true he;rcases h6.2 with h8|⟨h8,h9,h10⟩
        ·cases h8
        ·have:e=t':=by omega
         subst this;rw [hst]at hus;rw [hdt]at hud
         have hlies:liesAt P P.depth e (c.size/P.cellsOf e) ((ρ b).off+o) u 1=true:=by
          rw [h9,Nat.zero_add,h10 he];exact hu
         exact Lib.run_from_unsafe w (⟨(ρ b).blk,(ρ b).off+o,none⟩:Addr) hus hud hj hsh hlies
     ·exact absurd hu Bool.false_ne_true
    ·exact absurd hu Bool.false_ne_true
  ·cases hz
 ·cases hz
def cvV(P:Program)(h:HS)(s d:TypeId)(x:SV):Option SV:=match unsV P h s d x with
 |some v=>some v
 |none=>th P h s d x
theorem cvV_run{P:Program}{h:HS}{src dst:TypeId}{x z:SV}(hz:cvV P h src dst x=some z){ρ:Nat→Loc}{w:World}(H:aL ρ h w):(convert src dst (x.den ρ)).run P w= .ok (z.den ρ) w∧z.lt ρ h.nx:=by
 unfold cvV at hz
 split at hz
 ·rename_i v hv
  injection hz with hz;subst hz
  exact Cq hv H
 ·exact xf hz H
def sdV(x:SV):Option SV:=match x with
 | .slc b o l _=>bif Nat.beq l 0 then none else some (.ptr b o)
 | .v (.slice none _ _)=>some (.v (.pointer none))
 |_=>none
theorem sdV_run{P:Program}{x z:SV}(hz:sdV x=some z){ρ:Nat→Loc}{n:Nat}(hx:x.lt ρ n)(w:World)(ts:Array TypeId)(u:TypeId):(Builtin.unsafeSliceData_ ts u #[x.den ρ]).run P w= .ok (z.den ρ) w∧z.lt ρ n:=by
 unfold sdV at hz
 split at hz
 ·rename_i b o l c
  cases hl:Nat.beq l 0 with
  |true=>rw [hl]at hz;cases hz
  |false=>
   rw [hl]at hz;simp only [cond_false,Option.some.injEq]at hz;subst hz;have hl0:l≠0:=fun e=>by rw [e]at hl;cases hl
   have hle:l≤c.den ρ:=hx.2.2;refine⟨?_,hx.1⟩;have hc:c.den ρ≠0:=by omega
   simp only [SV.den]
   have hdef:Builtin.unsafeSliceData_ ts u #[.slice (some ⟨(ρ b).blk,(ρ b).off+o,none⟩) l (c.den ρ)]=
    (do
      if c.den ρ≠0 then pure (.pointer (some ⟨(ρ b).blk,(ρ b).off+o,none⟩))
      else if (←viewAt (ρ b).blk).isSome then pure (.pointer (some ⟨(ρ b).blk,(ρ b).off+o,none⟩))
      else pure (.pointer (some ⟨←newObj (.view ⟨(ρ b).blk,(ρ b).off+o,none⟩ (←elemOf u)),0,none⟩))):=rfl
   rw [hdef,if_pos hc];rfl
 ·simp only [Option.some.injEq]at hz
  subst hz;exact⟨rfl,trivial⟩
 ·cases hz
theorem aL.frozen{ρ:Nat→Loc}{h:HS}{w:World}(H:aL ρ h w){b:Nat}{B:bD}(hb:h.H.get b=some B)(n:Nat):aL ρ { h with H:=h.H.del b } (w.freeze ⟨(ρ b).blk,0,none⟩ n):=by
 have other:∀k,k≠(ρ b).blk→(w.freeze ⟨(ρ b).blk,0,none⟩ n).heap[k]? =w.heap[k]? :=fun k hk=>by
  unfold World.freeze
  split
  ·rfl
  ·show(w.heap.modify (ρ b).blk _)[k]? =_
   rw [Array.getElem?_modify,if_neg (Ne.symm hk)]
 refine⟨?_,?_,?_,fun k o hk=> ?_,fun b' B' hb'=> ?_,fun b1 b2 B1 B2 h1 h2 he=> ?_,fun b' B' hb'=> ?_,fun k o hk=> ?_,fun b' B' hb'=> ?_,H.disj⟩
 ·rw [←H.os];unfold World.freeze;split<;>rfl
 ·rw [←H.out];unfold World.freeze;split<;>rfl
 ·rw [←H.tape];unfold World.freeze;split<;>rfl
 ·have hne:k≠(ρ b).blk:=fun e=>by
    have:=H.apart b B hb;rw [←e]at this;have hk:h.M.blk k=some o:=hk;rw [hk]at this;cases this
  rw [other k hne];exact H.mem k o hk
 ·obtain⟨hne,hg⟩:=T.cR hb'
  obtain⟨k1,k2,k3⟩:=H.blk b' B' hg;refine⟨k1,k2,k3.of (Ext.refl ρ h.nx) k2 (other _ fun e=>hne (H.inj b' b B' B hg hb e))⟩
 ·exact H.inj b1 b2 B1 B2 (T.cR h1).2 (T.cR h2).2 he
 ·exact H.apart b' B' (T.cR hb').2
 ·have hne:k≠(ρ b).blk:=fun e=>by
    have:=H.aprA b B hb;rw [←e]at this;have hk:h.M.A.blk k=some o:=hk;rw [hk]at this;cases this
  rw [other k hne];exact H.are k o hk
 ·exact H.aprA b' B' (T.cR hb').2
def rf:List SV→Option (List UInt8)
 | []=>some []
 |x::xs=>match x with
  | .v (.int .u8 k)=>bif decide (0≤k)&&decide (k≤255)then(match rf xs with
    |some l=>some (UInt8.ofNat k.toNat::l)
    |none=>none)else none
  |_=>none
theorem oW{ρ:Nat→Loc} :∀ {xs:List SV} {l:List UInt8},rf xs=some l→l.length=xs.length∧∀(j:Nat) (x:UInt8),l[j]? =some x→∃y,xs[j]? =some y∧y.den ρ= .int .u8 x.toNat
 | [],l,h=>by simp only [rf,Option.some.injEq]at h;subst h;exact⟨rfl,fun j x hj=>by simp at hj⟩
 |x::xs,l,h=>by
  simp only [rf]at h
  split at h
  ·rename_i k
   cases hc:decide (0≤k)&&decide (k≤255)with
   |false=>rw [hc]at h;cases h
   |true=>
    rw [hc]at h;simp only [cond_true]at h
    split at h
    ·rename_i l' hl'
     injection h with h;subst h
     obtain⟨h1,h2⟩:=oW (ρ:=ρ) hl';simp only [Bool.and_eq_true,decide_eq_true_eq]at hc;refine⟨by simp [h1],fun j y hj=> ?_⟩
     cases j with
     |zero=>
      simp only [List.getElem?_cons_zero,Option.some.injEq]at hj;subst hj;refine⟨_,rfl,?_⟩
      have:((UInt8.ofNat k.toNat).toNat:Int)=k:=by
       have h3:k.toNat<256:=by omega
       rw [UInt8.toNat_ofNat_of_lt' (by simpa using h3)];omega
      simp only [SV.den,this]
     |succ j=>exact h2 j y (by simpa using hj)
    ·cases h
  ·cases h
def usV(P:Program)(h:HS)(pt:TypeId)(p n:SV)(K:SV→HS→Bool):Bool:=match n with
 | .v (.int .i64 k)=>bif decide (k=0)then(match p with
     | .ptr _ _=>K (.str []) h
     | .v (.pointer none)=>K (.str []) h
     |_=>false)
   else match p with
    | .ptr b o=>match h.H.get b with
      |some (.cells cs _ τ)=>match τ with
       |0=>false
       |e+1=>match takeN k.toNat cs with
        |some r=>match rf r with
         |some bs=>match ty P pt with
          |some s=>match s.und with
           | .pointer e'=>bif Nat.beq e' e&&Nat.beq o 0&&Nat.beq (P.cellsOf e) 1&&decide (k=(bs.length:Int))&&decide (k≤9223372036854775807)then K (.str bs) { h with H:=h.H.del b } else false
           |_=>false
          |none=>false
         |none=>false
        |none=>false
      |_=>false
    |_=>false
 |_=>false
theorem usV_run{P:Program}{h:HS}{pt it u:TypeId}{p n:SV}{K:SV→HS→Bool}(hk:usV P h pt p n K=true){ρ:Nat→Loc}{w:World}(H:aL ρ h w):
  ∃v w',(Builtin.unsafeString_ #[pt,it] u #[p.den ρ,n.den ρ]).run P w= .ok v w'∧cT ρ h K v w':=by
 unfold usV at hk
 split at hk
 ·rename_i k
  cases h0:decide (k=0)with
  |true=>
   rw [h0]at hk;have h0:=of_decide_eq_true h0;subst h0;simp only [cond_true]at hk
   split at hk
   ·exact⟨_,w,Lib.run_unsafeString_none w pt it u _,.str [],h,ρ,hk,rfl,trivial,H,Ext.refl _ _,Nat.le_refl _,Mem.le_refl _⟩
   ·exact⟨_,w,Lib.run_unsafeString_none w pt it u _,.str [],h,ρ,hk,rfl,trivial,H,Ext.refl _ _,Nat.le_refl _,Mem.le_refl _⟩
   ·exact absurd hk Bool.false_ne_true
  |false=>
   rw [h0]at hk;have hk0:k≠0:=of_decide_eq_false h0;simp only [cond_false]at hk
   split at hk
   ·rename_i b o
    split at hk
    ·rename_i cs es τ hb
     cases τ with
     |zero=>exact absurd hk Bool.false_ne_true
     |succ e=>
      simp only at hk
      split at hk
      ·rename_i r hr
       split at hk
       ·rename_i bs hbs
        split at hk
        ·rename_i s hs
         split at hk
         ·rename_i e' hd
          cases hc:Nat.beq e' e&&Nat.beq o 0&&Nat.beq (P.cellsOf e) 1&&decide (k=(bs.length:Int))&&decide (k≤9223372036854775807)with
          |false=>rw [hc]at hk;exact absurd hk Bool.false_ne_true
          |true=>
           rw [hc]at hk;simp only [cond_true]at hk;simp only [Bool.and_eq_true,decide_eq_true_eq]at hc;obtain⟨⟨⟨⟨c1,c2⟩,c3⟩,c4⟩,c5⟩:=hc;have c1:=Nat.eq_of_beq_eq_true c1;have c2:=Nat.eq_of_beq_eq_true c2;have c3:=Nat.eq_of_beq_eq_true c3;subst c1;subst c2
           obtain⟨_,_,c,t',fz,h3,h4,h5,h7,h6⟩:=H.blk b _ hb;rcases h6.2 with h8|⟨h8,h9,_⟩
           ·cases h8
           ·have:e'=t':=Nat.succ.inj h8
            subst this;obtain⟨r1,r2⟩:=fw hr;obtain⟨b1,b2⟩:=oW (ρ:=ρ) hbs;have hu:=(bK hs).und;rw [hd]at hu;have hsh:w.shape? (ρ b).blk=some (e',c.size):=by unfold World.shape?;rw [h3]
            have hcell:∀j x,bs[j]? =some x→w.cell? ((⟨(ρ b).blk,0,none⟩:Addr).add j)=some (.int .u8 x.toNat):=fun j x hj=>by
             obtain⟨y,hy,hd'⟩:=b2 j x hj;have:=h4 j y (r2 j y hy);rw [h9,Nat.zero_add]at this;rw [cE,Nat.zero_add,um h3,this,hd']
            have hne:bs≠ []:=fun e=>by rw [e]at c4;exact hk0 (by simpa using c4)
            have hle:bs.length≤c.size:=by
             have hpos:0<bs.length:=List.length_pos_iff.2 hne;obtain⟨y,hy,_⟩:=b2 (bs.length-1) bs[bs.length-1] (List.getElem?_eq_getElem (by omega));have:=h4 _ y (r2 _ y hy);have:=(Array.getElem?_eq_some_iff.1 this).1;omega
            have key:=Lib.run_unsafeString_row (P:=P) w pt it u e' hu c3 (ρ b).blk c.size hsh bs hne hle (by omega) hcell;refine⟨_,_,?_,.str bs,_,ρ,hk,rfl,trivial,H.frozen hb bs.length,Ext.refl _ _,Nat.le_refl _,Mem.le_refl _⟩;have e1:(SV.ptr b 0).den ρ= .pointer (some ⟨(ρ b).blk,0,none⟩):=by simp [SV.den,h9]
            have e2:(SV.v (.int .i64 k)).den ρ= .int .i64 bs.length:=by simp [SV.den,c4]
            rw [e1,e2];exact key
         ·exact absurd hk Bool.false_ne_true
        ·exact absurd hk Bool.false_ne_true
       ·exact absurd hk Bool.false_ne_true
      ·exact absurd hk Bool.false_ne_true
    ·exact absurd hk Bool.false_ne_true
   ·exact absurd hk Bool.false_ne_true
 ·exact absurd hk Bool.false_ne_true
end
end Go.Sx
namespace Go.Sx
noncomputable section
variable {dfs : List Deferred}
abbrev da:=FuncId→List SV→HS→(SV→HS→Bool)→(SV→HS→Bool)→Bool
def pnc(v:Value):List PanicEntry:= [{ v,recovered:=false }]
def db(P:Program)(f:FuncId)(args:Array Value)(w:World)(Φ Ψ:Value→World→Prop):Prop:=
 (∃fn,P.funcs[f]? =some fn∧((fn.name== "runtime.NumGoroutine")=false∧fn.body.isNone=false)∧Calls P f args w fun e w'=>(∃v,e= .returned v∧Φ v w')∨∃v,e= .panicked (pnc v)∧Ψ v w')∨
 (∃v w',(callFunc f args).run P w= .ok (.value v) w'∧Φ v w')
def eu(P:Program)(call:da):Prop:=
 ∀f args h K E,call f args h K E→∀ρ w,aL ρ h w→(∀x∈args,x.lt ρ h.nx)→db P f (args.map (SV.den ρ)).toArray w (cT ρ h K) (cT ρ h E)
def dv(P:Program)(tm:T SV)(h:HS):Op→Option SV
 | .load t x=>match opd tm x with
   |some x=>iw P h t x
   |none=>none
 | .lookup t x k ok=>match opd tm x,opd tm k with
   |some x,some k=>mK P h t x k ok
   |_,_=>none
 | .convert s d x=>match opd tm x with
   |some x=>cvV P h s d x
   |none=>none
 | .entry x=>match opd tm x with
   |some x=>kH h x
   |none=>none
 | .call c=>match c.callee with
   | .builtin .len=>match c.argTypes.toList,jR tm c.args.toList with
     | [t],some [.mp b]=>match ty P t,h.H.get b with
       |some s,some (.map es _)=>bif o5 s.und then some (.v (.int .i64 es.length))else none
       |_,_=>none
     | [t],some [.v (.map (some g))]=>bif h.M.X.op then(match ty P t with
       |some s=>bif o5 s.und then(match h.M.A.cnt g with
        |some n=>some (.v (.int .i64 n))
        |none=>none)else none
       |none=>none)else none
     |_,_=>none
   | .builtin .unsafeSliceData=>match jR tm c.args.toList with
     |some [x]=>sdV x
     |_=>none
   |_=>none
 |_=>none
theorem eM{P:Program}{tm:T SV}{h:HS}{op:Op}{z:SV}(hz:dv P tm h op=some z){ρ:Nat→Loc}{sz:Nat}{a:Act}{w:World}(A:cG dfs ρ tm sz h.nx a)(H:aL ρ h w)
  (o:Oper) (ho:o.op=op):(execOp a.eval o).run P w= .ok (.value (z.den ρ)) w∧z.lt ρ h.nx:=by
 unfold dv at hz;unfold execOp;rw [ho]
 split at hz
 ·split at hz
  ·rename_i x hx
   obtain⟨h1,_⟩:=aT A hx;obtain⟨k1,k2⟩:=sB hz H;exact⟨by simp only [Sem.run_bind,h1,k1,Result.andThen_ok,Sem.run_pure],k2⟩
  ·cases hz
 ·split at hz
  ·rename_i x k hx hk
   obtain⟨h1,_⟩:=aT A hx;obtain⟨h2,_⟩:=aT A hk;obtain⟨k1,k2⟩:=Be hz H;exact⟨by simp only [Sem.run_bind,h1,h2,k1,Result.andThen_ok,Sem.run_pure],k2⟩
  ·cases hz
 ·split at hz
  ·rename_i x hx
   obtain⟨h1,_⟩:=aT A hx;obtain⟨k1,k2⟩:=cvV_run hz H;exact⟨by simp only [Sem.run_bind,h1,k1,Result.andThen_ok,Sem.run_pure],k2⟩
  ·cases hz
 ·split at hz
  ·rename_i x hx
   obtain⟨h1,_⟩:=aT A hx;obtain⟨k1,k2⟩:=yw (P:=P) hz H;exact⟨by simp only [Sem.run_bind,h1,k1,Result.andThen_ok,Sem.run_pure],k2⟩
  ·cases hz
 ·rename_i c
  split at hz
  ·rename_i hc
   split at hz
   ·rename_i t b ht hxs
    split at hz
    ·rename_i s es clock hs hb
     cases hd:s.und with
     |map k e=>
      rw [hd]at hz;simp only [o5,cond_true,Option.some.injEq]at hz;subst hz;refine⟨?_,trivial⟩;obtain⟨h1,_⟩:=dw A _ _ hxs;obtain⟨_,_,h3⟩:=H.blk b _ hb;have h3:w.heap[(ρ b).blk]? =some (.map (es.map (aQ ρ)).toArray clock):=h3;have hget:(getObj (ρ b).blk).run P w= .ok (.map (es.map (aQ ρ)).toArray clock) w:=by simp [getObj,Sem.run,h3]
      have hargs:c.args.map a.eval= #[.map (some (ρ b).blk)]:=by
       apply Array.toList_inj.1;rw [Array.toList_map,h1];rfl
      have hts:c.argTypes= #[t]:=Array.toList_inj.1 ht;simp only [resolve,hc,hargs,hts,Sem.run_bind,Sem.run_pure,Result.andThen_ok,invoke,builtin,Builtin.len_,List.getElem?_toArray,List.getElem?_cons_zero,aq w hs,hd,hget,SV.den];simp [goInt]
     |_=>rw [hd]at hz;simp [o5]at hz
    ·cases hz
   ·rename_i t g ht hxs
    cases hop:h.M.X.op with
    |false=>rw [hop]at hz;cases hz
    |true=>
     rw [hop]at hz;simp only [cond_true]at hz
     split at hz
     ·rename_i s hs
      cases hd:s.und with
      |map k e=>
       rw [hd]at hz;simp only [o5,cond_true]at hz
       split at hz
       ·rename_i n hn
        simp only [Option.some.injEq]at hz;subst hz;refine⟨?_,trivial⟩;obtain⟨h1,_⟩:=dw A _ _ hxs;obtain⟨es,clock,hb,rfl⟩:=Ew hn;have h3:=H.are g _ hb;have hget:(getObj g).run P w= .ok (.map es clock) w:=by simp [getObj,Sem.run,h3]
        have hargs:c.args.map a.eval= #[.map (some g)]:=by
         apply Array.toList_inj.1;rw [Array.toList_map,h1];rfl
        have hts:c.argTypes= #[t]:=Array.toList_inj.1 ht;simp only [resolve,hc,hargs,hts,Sem.run_bind,Sem.run_pure,Result.andThen_ok,invoke,builtin,Builtin.len_,List.getElem?_toArray,List.getElem?_cons_zero,aq w hs,hd,hget,SV.den];simp [goInt]
       ·cases hz
      |_=>rw [hd]at hz;simp [o5]at hz
     ·cases hz
   ·cases hz
  ·rename_i hc
   split at hz
   ·rename_i x hxs
    obtain⟨h1,h2⟩:=dw A _ _ hxs;obtain⟨k1,k2⟩:=sdV_run (P:=P) hz (h2 x (by simp)) w c.argTypes o.type;refine⟨?_,k2⟩
    have hargs:c.args.map a.eval= #[x.den ρ]:=by
     apply Array.toList_inj.1;rw [Array.toList_map,h1];rfl
    simp only [resolve,hc,hargs,Sem.run_bind,Sem.run_pure,Result.andThen_ok,invoke,builtin,k1]
   ·cases hz
  ·cases hz
 ·cases hz
def ER(x:SV):Option (FuncId×List SV):=
 match x with
 | .fn f caps=>some (f,caps)
 | .v (.func (.func f) first caps)=>bif first.isEmpty then some (f,caps.toList.map .v)else none
 |_=>none
theorem wK{x:SV}{f:FuncId}{caps:List SV}(h:ER x=some (f,caps))(ρ:Nat→Loc){n:Nat}(hx:x.lt ρ n):x.den ρ= .func (.func f) #[] (caps.map (SV.den ρ)).toArray∧∀y∈caps,y.lt ρ n:=by
 unfold ER at h
 split at h
 ·injection h with h;injection h with h1 h2;subst h1;subst h2
  exact⟨by simp [SV.den,cS],dj.1 hx⟩
 ·rename_i f' first caps'
  cases hf:first.isEmpty with
  |false=>rw [hf]at h;cases h
  |true=>
   rw [hf]at h;injection h with h;injection h with h1 h2;subst h1;subst h2
   have:first= #[]:=Array.isEmpty_iff.1 hf;subst this;exact⟨by simp [SV.den,Function.comp_def],fun y hy=>by obtain⟨z,_,rfl⟩:=List.mem_map.1 hy;trivial⟩
 ·cases h
def sP(P:Program)(call:da)(tm:T SV)(h:HS)(c:Call)(K E:SV→HS→Bool):Bool:=
 match c.callee with
 | .value f=>match opd tm f with
   |some fv=>match ER fv,jR tm c.args.toList with
    |some (f,caps),some xs=>call f (xs++caps) h K E
    |_,_=>false
   |none=>false
 | .builtin .append=>match jR tm c.args.toList with
   |some [s,x]=>bif h.M.X.op then uz P h c.argTypes.toList s x K else match rF s,rF x with
    |some l,some n=>bif Nat.ble (l+n) 9223372036854775807 then uy P h c.argTypes.toList s x K else false
    |_,_=>false
   |_=>false
 | .builtin .copy=>match jR tm c.args.toList with
   |some [d,x]=>copyV P h c.argTypes.toList d x K
   |_=>false
 | .builtin .delete=>match jR tm c.args.toList with
   |some [m,k]=>delV P h c.argTypes.toList m k K
   |_=>false
 | .builtin .unsafeString=>match c.argTypes.toList,jR tm c.args.toList with
   | [pt,_],some [p,n]=>usV P h pt p n K
   |_,_=>false
 |_=>false
def isIf(x:SV):Bool:=match x with
 | .ifc _ _=>true
 | .v (.iface _ _)=>true
 |_=>false
theorem DZ{x:SV}(h:isIf x=true)(ρ:Nat→Loc):∃t v,x.den ρ= .iface t v:=by
 unfold isIf at h
 split at h
 ·rename_i t y
  exact⟨t,y.den ρ,by simp only [SV.den]⟩
 ·rename_i t y
  exact⟨t,y,by simp only [SV.den]⟩
 ·cases h
def EJ(h:HS)(e:TypeId)(cs:List SV)(K:SV→HS→Bool)(len:Nat)(X:Bool):Bool:=bif h.M.X.op then(match iC cs with
 |some vs=>h.M.D (∀g A',h.M.A.New A' g vs.toArray e→K (.v (.slice (some ⟨g,0,none⟩) len len)) (h.put A')=true)
 |none=>X)else X
def uh(P:Program)(call:da)(tm:T SV)(h:HS)(op:Op)(K E:SV→HS→Bool):Bool:=
 match op with
 | .alloc t=>rm P h t K
 | .box t x=>match opd tm x with
   |some x=>EL h t x K
   |none=>false
 | .store t a x=>match opd tm a,opd tm x with
   |some a,some x=>ti P h t a x K
   |_,_=>false
 | .makeSlice t l c=>match opd tm l,opd tm c with
   |some l,some c=>vB P h t l c K
   |_,_=>false
 | .makeMap _ none=>bif h.M.X.op then mapA h K else K (.mp h.nx) (h.new (.map [] 0))
 | .buildSlice t len parts=>match jR tm (parts.toList.map (·.2))with
   |some xs=>match ty P t with
    |some s=>match s.und with
     | .slice e=>match ty P e with
       |some se=>bif Nat.ble (len*se.size) 16777216&&Nat.beq se.zero.cells.size se.size then
          (match oR (fun i=>some (i*se.size,se.size)) (cM (se.zero.cells.toList.map .v) len) ((parts.toList.map (·.1)).zip xs)with
          |some cs=>EJ h e cs K len (K (.slc h.nx 0 len (.lit len)) (h.new (.cells cs 0 (e+1))))
          |none=>false)
        else false
       |none=>false
     |_=>false
    |none=>false
   |none=>false
 | .mapUpdate t m k v=>match opd tm m,opd tm k,opd tm v with
   |some m,some k,some v=>C9 P h t m k v K
   |_,_,_=>false
 | .insert t m k v=>match opd tm m,opd tm k,opd tm v with
   |some m,some k,some v=>C9 P h t m k v K
   |_,_,_=>false
 | .range t x=>match opd tm x with
   |some x=>tx P h t x K
   |none=>false
 | .next x i=>match opd tm x with
   |some x=>zn h x i K
   |none=>false
 | .call c=>sP P call tm h c K E
 | .convert s d x=>match opd tm x with
   |some x=>zT P h s d x K
   |none=>false
 | .panic x=>match opd tm x with
   |some x=>bif isIf x then E x h else false
   |none=>false
 |_=>false
theorem ri{P:Program}{t e:TypeId}{s se:STy}{len:Nat}{parts:List (Nat×SV)}{cs:List SV}(hs:ty P t=some s)(hd:s.und= .slice e)(hse:ty P e=some se)(hlen:len*se.size≤16777216)(hz:se.zero.cells.size=se.size)
  (hf:oR (fun i=>some (i*se.size,se.size)) (cM (se.zero.cells.toList.map .v) len) parts=some cs) (ρ:Nat→Loc) (w:World):
  (Instr.buildSlice t len (parts.map fun(i,x)=>(i,x.den ρ)).toArray).run P w= .ok (.slice (some ⟨w.heap.size,0,none⟩) len len) { w with heap:=w.heap.push (.cells (cs.map (SV.den ρ)).toArray e) } :=by
 obtain⟨k1,_⟩:=jb (ρ:=ρ) (n:=0) parts _ cs hf
 have hcells:((Array.range (len*se.size)).map ((if len*se.size=0 then #[]else se.zero.cells)[· %(if len*se.size=0 then #[]else se.zero.cells).size]!))=((cM (se.zero.cells.toList.map .v) len).map (SV.den ρ)).toArray:=by
  apply Array.toList_inj.1;rw [jr,←ju,hz]
  by_cases h0:len*se.size=0
  ·simp [h0]
  ·rw [if_neg h0];simp [hz]
 have h24:¬(len*se.size>2^24):=by
  have:(2^24:Nat)=16777216:=by decide
  omega
 simp only [Instr.buildSlice,Sem.run_bind,aq w hs,hd,Result.andThen_ok,bp w hse,h24,if_false]
 by_cases h0:len*se.size=0
 ·simp only [h0,if_true]at hcells
  simp only [h0,if_true,Sem.run_bind,Sem.run_pure,Result.andThen_ok,hcells,k1,newRow,run_newObj]
 ·simp only [h0,if_false]at hcells
  simp only [h0,if_false,Sem.run_bind,Sem.run_pure,Result.andThen_ok,cu w hse,hcells,k1,newRow,run_newObj]
theorem call_wp{P:Program}{call:da}(CS:eu P call){tm:T SV}{h:HS}{c:Call}{K E:SV→HS→Bool}(hk:sP P call tm h c K E){ρ:Nat→Loc}{sz:Nat}{a:Act}{w:World}(A:cG dfs ρ tm sz h.nx a)(H:aL ρ h w)
  (o:Oper) (ho:o.op= .call c) {next:Act→World→Prop} {Q:Exit→Act→World→Prop} (hn:∀v w',cT ρ h K v w'→next (a.put o.dst v) w') (hp:∀v w',cT ρ h E v w'→Q (.panic (pnc v)) a w'):o.wp P a w next Q:=by
 unfold Oper.wp execOp;rw [ho];unfold sP at hk
 split at hk
 ·rename_i f hc
  split at hk
  ·rename_i fv hfv
   split at hk
   ·rename_i f' caps xs hfn hxs
    obtain⟨h1,h2⟩:=aT A hfv;obtain⟨h3,h4⟩:=wK hfn ρ h2;obtain⟨h5,h6⟩:=dw A _ _ hxs
    have hgo:=CS f' (xs++caps) h K E hk ρ w H (fun y hy=>by
     rcases List.mem_append.1 hy with hy|hy
     ·exact h6 y hy
     ·exact h4 y hy)
    have hargs:c.args.map a.eval=(xs.map (SV.den ρ)).toArray:=by
     apply Array.toList_inj.1;rw [Array.toList_map,h5]
    have hrun:(do let d ←resolve a.eval c o.type;invoke d.target d.args:Sem Next).run P w=(callFunc f' ((xs++caps).map (SV.den ρ)).toArray).run P w:=by
     simp only [resolve,hc,hargs,h1,h3,Deferred.ofValue,Sem.run_bind,Sem.run_pure,Result.andThen_ok,invoke];simp
    dsimp only;rw [hrun];rcases hgo with⟨fn,hf,⟨hname,hbody⟩,hcalls⟩|⟨v,w',hval,hq⟩
    ·have henter:(callFunc f' ((xs++caps).map (SV.den ρ)).toArray).run P w= .ok (.enter f' ((xs++caps).map (SV.den ρ)).toArray) w:=by
       simp only [callFunc,Sem.run_bind,Result.andThen_ok,run_program,hf,hname,hbody,Bool.false_eq_true,if_false,Sem.run_pure]
     rw [henter,Oper.upon_enter]
     exact hcalls.mono fun e w' hor=>by
      rcases hor with⟨v,he,hq⟩|⟨v,he,hq⟩
      ·subst he;exact hn v w' hq
      ·subst he;exact hp v w' hq
    ·rw [hval,Oper.upon_value]
     exact hn v w' hq
   ·exact absurd hk Bool.false_ne_true
  ·exact absurd hk Bool.false_ne_true
 ·rename_i hc
  split at hk
  ·rename_i s x hxs
   cases hop:h.M.X.op with
   |true=>
    rw [hop]at hk;simp only [cond_true]at hk;obtain⟨h5,h6⟩:=dw A _ _ hxs
    have hargs:c.args.map a.eval= #[s.den ρ,x.den ρ]:=by
     apply Array.toList_inj.1;rw [Array.toList_map,h5];rfl
    obtain⟨v,w',k1,k2⟩:=wN hk H o.type;have:c.argTypes.toList.toArray=c.argTypes:=rfl;rw [this]at k1
    have hrun:(do let d ←resolve a.eval c o.type;invoke d.target d.args:Sem Next).run P w= .ok (.value v) w':=by
     simp only [resolve,hc,hargs,Sem.run_bind,Sem.run_pure,Result.andThen_ok,invoke,builtin,k1]
    dsimp only;rw [hrun,Oper.upon_value];exact hn v w' k2
   |false=>
   rw [hop]at hk;simp only [cond_false]at hk
   split at hk
   ·rename_i l n hl hn'
    cases hb:Nat.ble (l+n) 9223372036854775807 with
    |false=>rw [hb]at hk;exact absurd hk Bool.false_ne_true
    |true=>
     rw [hb]at hk;simp only [cond_true]at hk;obtain⟨h5,h6⟩:=dw A _ _ hxs
     have hargs:c.args.map a.eval= #[s.den ρ,x.den ρ]:=by
      apply Array.toList_inj.1;rw [Array.toList_map,h5];rfl
     obtain⟨v,w',k1,k2⟩:=wM hk (fun l' n' h1 h2=>by rw [hl]at h1;rw [hn']at h2;injection h1 with h1;injection h2 with h2;subst h1;subst h2;exact Nat.le_of_ble_eq_true hb) H (h6 s (by simp)) o.type;have:c.argTypes.toList.toArray=c.argTypes:=rfl;rw [this]at k1
     have hrun:(do let d ←resolve a.eval c o.type;invoke d.target d.args:Sem Next).run P w= .ok (.value v) w':=by
      simp only [resolve,hc,hargs,Sem.run_bind,Sem.run_pure,Result.andThen_ok,invoke,builtin,k1]
     dsimp only;rw [hrun,Oper.upon_value];exact hn v w' k2
   ·exact absurd hk Bool.false_ne_true
  ·exact absurd hk Bool.false_ne_true
 ·rename_i hc
  split at hk
  ·rename_i d x hxs
   obtain⟨h5,h6⟩:=dw A _ _ hxs
   have hargs:c.args.map a.eval= #[d.den ρ,x.den ρ]:=by
    apply Array.toList_inj.1;rw [Array.toList_map,h5];rfl
   obtain⟨v,w',k1,k2⟩:=BP hk H o.type;have:c.argTypes.toList.toArray=c.argTypes:=rfl;rw [this]at k1
   have hrun:(do let d ←resolve a.eval c o.type;invoke d.target d.args:Sem Next).run P w= .ok (.value v) w':=by
    simp only [resolve,hc,hargs,Sem.run_bind,Sem.run_pure,Result.andThen_ok,invoke,builtin,k1]
   dsimp only;rw [hrun,Oper.upon_value];exact hn v w' k2
  ·exact absurd hk Bool.false_ne_true
 ·rename_i hc
  split at hk
  ·rename_i m k hxs
   obtain⟨h5,h6⟩:=dw A _ _ hxs
   have hargs:c.args.map a.eval= #[m.den ρ,k.den ρ]:=by
    apply Array.toList_inj.1;rw [Array.toList_map,h5];rfl
   obtain⟨v,w',k1,k2⟩:=Eo hk H o.type;have:c.argTypes.toList.toArray=c.argTypes:=rfl;rw [this]at k1
   have hrun:(do let d ←resolve a.eval c o.type;invoke d.target d.args:Sem Next).run P w= .ok (.value v) w':=by
    simp only [resolve,hc,hargs,Sem.run_bind,Sem.run_pure,Result.andThen_ok,invoke,builtin,k1]
   dsimp only;rw [hrun,Oper.upon_value];exact hn v w' k2
  ·exact absurd hk Bool.false_ne_true
 ·rename_i hc
  split at hk
  ·rename_i pt it p n hts hxs
   obtain⟨h5,h6⟩:=dw A _ _ hxs
   have hargs:c.args.map a.eval= #[p.den ρ,n.den ρ]:=by
    apply Array.toList_inj.1;rw [Array.toList_map,h5];rfl
   have hts:c.argTypes= #[pt,it]:=Array.toList_inj.1 hts;obtain⟨v,w',k1,k2⟩:=usV_run (it:=it) (u:=o.type) hk H
   have hrun:(do let d ←resolve a.eval c o.type;invoke d.target d.args:Sem Next).run P w= .ok (.value v) w':=by
    simp only [resolve,hc,hargs,hts,Sem.run_bind,Sem.run_pure,Result.andThen_ok,invoke,builtin,k1]
   dsimp only;rw [hrun,Oper.upon_value];exact hn v w' k2
  ·exact absurd hk Bool.false_ne_true
 ·exact absurd hk Bool.false_ne_true
theorem ug{P:Program}{call:da}(CS:eu P call){tm:T SV}{h:HS}{op:Op}{K E:SV→HS→Bool}(hk:uh P call tm h op K E){ρ:Nat→Loc}{sz:Nat}{a:Act}{w:World}(A:cG dfs ρ tm sz h.nx a)(H:aL ρ h w)
  (o:Oper) (ho:o.op=op) {next:Act→World→Prop} {Q:Exit→Act→World→Prop} (hn:∀v w',cT ρ h K v w'→next (a.put o.dst v) w') (hp:∀v w',cT ρ h E v w'→Q (.panic (pnc v)) a w'):o.wp P a w next Q:=by
 have val:∀ {s:Sem Value} {v:Value} {w':World},s.run P w= .ok v w'→(do pure (.value (←s)):Sem Next).run P w= .ok (.value v) w':=fun h=>by
  simp only [Sem.run_bind,h,Result.andThen_ok,Sem.run_pure]
 have skp:∀ {s:Sem Unit} {w':World},s.run P w= .ok () w'→(do s;pure .skip:Sem Next).run P w= .ok .skip w':=fun h=>by
  simp only [Sem.run_bind,h,Result.andThen_ok,Sem.run_pure]
 unfold uh at hk
 split at hk
 ·obtain⟨v,w',k1,k2⟩:=yQ hk H
  unfold Oper.wp execOp;rw [ho];dsimp only
  rw [val k1,Oper.upon_value];exact hn v w' k2
 ·rename_i t0 x0
  split at hk
  ·rename_i x hx
   obtain⟨h1,h2⟩:=aT A hx;obtain⟨v,w',k1,k2⟩:=EK (P:=P) (t:=t0) hk H h2;unfold Oper.wp execOp;rw [ho];dsimp only
   rw [h1,val k1,Oper.upon_value];exact hn v w' k2
  ·exact absurd hk Bool.false_ne_true
 ·split at hk
  ·rename_i x v hx hv
   obtain⟨h1,_⟩:=aT A hx;obtain⟨h2,h3⟩:=aT A hv;obtain⟨w',k1,k2⟩:=xh hk H h3;unfold Oper.wp execOp;rw [ho];dsimp only
   rw [h1,h2,skp k1,Oper.upon_skip];exact hn _ w' k2
  ·exact absurd hk Bool.false_ne_true
 ·split at hk
  ·rename_i l c hl hc
   obtain⟨h1,_⟩:=aT A hl;obtain⟨h2,_⟩:=aT A hc;obtain⟨v,w',k1,k2⟩:=Bc hk H;unfold Oper.wp execOp;rw [ho];dsimp only
   rw [h1,h2,val k1,Oper.upon_value];exact hn v w' k2
  ·exact absurd hk Bool.false_ne_true
 ·rename_i t
  cases hop:h.M.X.op with
  |true=>
   rw [hop]at hk;obtain⟨v,w',k1,k2⟩:=DH (P:=P) (t:=t) hk H;unfold Oper.wp execOp;rw [ho];dsimp only
   rw [Option.map_none,val k1,Oper.upon_value];exact hn v w' k2
  |false=>
  rw [hop]at hk;simp only [cond_false]at hk;have k1:(Instr.makeMap t none).run P w= .ok (.map (some w.heap.size)) { w with heap:=w.heap.push (.map #[] 0) } :=by simp [Instr.makeMap]
  unfold Oper.wp execOp;rw [ho];dsimp only
  rw [Option.map_none,val k1,Oper.upon_value];refine hn _ _ ⟨_,_,extend ρ h.nx ⟨w.heap.size,0,0⟩,hk,by simp [SV.den,bb],Nat.lt_succ_self _,?_,aS _ _ _,Nat.le_succ _,Mem.le_refl _⟩;exact H.alloc (o:= .map #[] 0) (B:= .map [] 0) (L:=⟨w.heap.size,0,0⟩) rfl (fun e he=>by cases he) fun w' hw'=>hw'
 ·rename_i t len parts
  split at hk
  ·rename_i xs hxs
   split at hk
   ·rename_i s hs
    split at hk
    ·rename_i e hd
     split at hk
     ·rename_i se hse
      cases hb:Nat.ble (len*se.size) 16777216&&Nat.beq se.zero.cells.size se.size with
      |false=>rw [hb]at hk;exact absurd hk Bool.false_ne_true
      |true=>
       rw [hb]at hk;simp only [Bool.and_eq_true]at hb;simp only [cond_true]at hk
       split at hk
       ·rename_i cs hf
        have hz:=Nat.eq_of_beq_eq_true hb.2;obtain⟨h1,h2⟩:=dw A _ _ hxs
        have hp:(parts.map fun(i,x)=>(i,a.eval x))=(((parts.toList.map (·.1)).zip xs).map fun(i,x)=>(i,x.den ρ)).toArray:=by
         apply Array.toList_inj.1;rw [Array.toList_map];show _=((parts.toList.map (·.1)).zip xs).map fun(i,x)=>(i,x.den ρ)
         have:(((parts.toList.map (·.1)).zip xs).map fun(i,x)=>(i,SV.den ρ x))=(parts.toList.map (·.1)).zip (xs.map (SV.den ρ)):=by
          rw [List.zip_map_right];rfl
         rw [this,←h1,List.map_map,List.zip_map'];rfl
        have k1:=ri hs hd hse (Nat.le_of_ble_eq_true hb.1) hz hf ρ w;have hlt:∀y∈cs,y.lt ρ h.nx:=(jb (ρ:=ρ) (n:=h.nx) _ _ cs hf).2 (kf _ _) (fun p hp=>h2 p.2 (List.of_mem_zip hp).2);unfold Oper.wp execOp;rw [ho];dsimp only
        rw [hp,val k1,Oper.upon_value]
        have old:K (.slc h.nx 0 len (.lit len)) (h.new (.cells cs 0 (e+1)))=true→next (a.put o.dst (.slice (some ⟨w.heap.size,0,none⟩) len len)) { w with heap:=w.heap.push (.cells (cs.map (SV.den ρ)).toArray e) } :=fun hk=>
         hn _ _ ⟨_,_,extend ρ h.nx ⟨w.heap.size,0,0⟩,hk,by simp [SV.den,bb,cJ.den],⟨Nat.lt_succ_self _,trivial,Nat.le_refl _⟩,la H hlt _ rfl e,aS _ _ _,Nat.le_succ _,Mem.le_refl _⟩
        unfold EJ at hk
        cases hop:h.M.X.op with
        |false=>rw [hop]at hk;exact old hk
        |true=>
         rw [hop]at hk;simp only [cond_true]at hk
         split at hk
         ·rename_i vs hvs
          obtain⟨A',k2,k3⟩:=jg H vs.toArray e w.drawn;rw [dW ρ cs vs hvs];exact hn _ _ ⟨_,_,ρ,(h.M.X.hD _).1 hk _ A' k2,rfl,trivial,k3,Ext.refl _ _,Nat.le_refl _,Mem.cH _ _⟩
         ·exact old hk
       ·exact absurd hk Bool.false_ne_true
     ·exact absurd hk Bool.false_ne_true
    ·exact absurd hk Bool.false_ne_true
   ·exact absurd hk Bool.false_ne_true
  ·exact absurd hk Bool.false_ne_true
 ·split at hk
  ·rename_i m k v hm hkk hv
   obtain⟨h1,_⟩:=aT A hm;obtain⟨h2,h3⟩:=aT A hkk;obtain⟨h4,h5⟩:=aT A hv;obtain⟨w',k1,k2⟩:=uW hk H h3 h5;unfold Oper.wp execOp;rw [ho];dsimp only
   rw [h1,h2,h4,skp k1,Oper.upon_skip];exact hn _ w' k2
  ·exact absurd hk Bool.false_ne_true
 ·split at hk
  ·rename_i m k v hm hkk hv
   obtain⟨h1,_⟩:=aT A hm;obtain⟨h2,h3⟩:=aT A hkk;obtain⟨h4,h5⟩:=aT A hv;obtain⟨w',k1,k2⟩:=uW hk H h3 h5;unfold Oper.wp execOp;rw [ho];dsimp only
   rw [h1,h2,h4,skp k1,Oper.upon_skip];exact hn _ w' k2
  ·exact absurd hk Bool.false_ne_true
 ·split at hk
  ·rename_i x hx
   obtain⟨h1,_⟩:=aT A hx;obtain⟨v,w',k1,k2⟩:=xC hk H;unfold Oper.wp execOp;rw [ho];dsimp only
   rw [h1,val k1,Oper.upon_value];exact hn v w' k2
  ·exact absurd hk Bool.false_ne_true
 ·split at hk
  ·rename_i x hx
   obtain⟨h1,_⟩:=aT A hx;obtain⟨v,w',k1,k2⟩:=AU hk H o.type;unfold Oper.wp execOp;rw [ho];dsimp only
   rw [h1,val k1,Oper.upon_value];exact hn v w' k2
  ·exact absurd hk Bool.false_ne_true
 ·exact call_wp CS hk A H o ho hn hp
 ·split at hk
  ·rename_i x hx
   obtain⟨h1,h2⟩:=aT A hx;obtain⟨v,w',k1,k2⟩:=BR hk H h2;unfold Oper.wp execOp;rw [ho];dsimp only
   rw [h1,val k1,Oper.upon_value];exact hn v w' k2
  ·exact absurd hk Bool.false_ne_true
 ·split at hk
  ·rename_i x hx
   obtain⟨h1,h2⟩:=aT A hx
   cases hi:isIf x with
   |false=>rw [hi]at hk;exact absurd hk Bool.false_ne_true
   |true=>
    rw [hi]at hk;have hk:E x h=true:=hk;obtain⟨t,v,hd⟩:=DZ hi ρ;unfold Oper.wp execOp;rw [ho];dsimp only
    have:(do pure (.value (←Instr.panic (x.den ρ))):Sem Next).run P w= .halt (.panic (x.den ρ)) w:=by
     rw [hd];rfl
    rw [h1,this,Oper.upon_panic];exact hp _ w ⟨x,h,ρ,hk,rfl,h2,H,Ext.refl _ _,Nat.le_refl _,Mem.le_refl _⟩
  ·exact absurd hk Bool.false_ne_true
 ·exact absurd hk Bool.false_ne_true
end
end Go.Sx
namespace Go.Sx
noncomputable section
section
variable {P : Program} {ops : Array Oper} {Q : Exit → Act → World → Prop} {md : Region.Mode}
structure o7 where
 dep:Nat→Bool
 inv:World→Prop
def fu(P:Program)(md:Region.Mode)(ops:Array Oper)(Q:Exit→Act→World→Prop):Nat→List o7→Array Bool→Act→World→Prop
 |0,L,listed,a,w=>(∀p∈L,p.inv w)∧Region.ready md ops listed= []∧Q .normal a w
 |fuel+1,L,listed,a,w=>
  (∀p∈L,p.inv w)∧(Region.ready md ops listed= []→Q .normal a w)∧
  ∀i∈Region.ready md ops listed,wpOp P ops Q i (fu P md ops Q fuel (L.filter fun p=> !p.dep i) (listed.setIfInBounds i true)) a w
theorem pH:∀(fuel:Nat) (L:List o7) (listed:Array Bool) (a:Act) (w:World),fu P md ops Q fuel L listed a w→wpAny P md ops Q fuel listed a w:=by
 intro fuel
 induction fuel with
 |zero=>intro L listed a w h;exact h.2
 |succ fuel ih=>intro L listed a w h;exact⟨h.2.1,fun i hi=>wpOp_mono (fun a w h=>ih _ _ a w h) (h.2.2 i hi)⟩
def er(P:Program)(ops:Array Oper)(I:World→Prop)(o:Oper)(v:Value)(a:Act):Prop:=
 (Region.wanted o (yielded ops a.tmps)=true∧∀w,I w→(execOp a.eval o).run P w= .ok (.value v) w)∨
 (Region.wanted o (yielded ops a.tmps)=false∧v=undef)
theorem er.wpOp{I:World→Prop}{i:Nat}{o:Oper}{v:Value}{a:Act}(hi:ops[i]? =some o)(hy:er P ops I o v a)
  {K:Act→World→Prop} {w:World} (hI:I w) (h:K (a.put o.dst v) w):wpOp P ops Q i K a w:=by
 unfold Go.wpOp;simp only [hi];rcases hy with⟨hw,hv⟩|⟨hw,rfl⟩
 ·simp only [hw,if_true,Oper.wp,hv w hI,Oper.upon];exact .inl h
 ·simp only [hw,Bool.false_eq_true,if_false];exact h
theorem er.of_same{I:World→Prop}{o:Oper}{v:Value}{a a':Act}(hy:er P ops I o v a)(he:execOp a'.eval o=execOp a.eval o)
  (hw:Region.wanted o (yielded ops a'.tmps)=Region.wanted o (yielded ops a.tmps)):er P ops I o v a':=by
 unfold er at*;rw [he,hw];exact hy
theorem Ac{I:World→Prop}{j:Nat}{oi oj:Oper}{v:Value}(hj:ops[j]? =some oj)(hap:oi.apart ops oj=true)
  (hsi:∀cs b,oi.op≠ .select cs b) (hsj:∀cs b,oj.op≠ .select cs b)
  (hQ:∀c a w,Q (.panic c) (a.put oi.dst v) w→Q (.panic c) a w) {K:Act→World→Prop} {a:Act} {w:World}
  (hy:er P ops I oi v a) (h:wpOp P ops Q j K (a.put oi.dst v) w):
  wpOp P ops Q j (fun a' w'=>er P ops I oi v a'∧K (a'.put oi.dst v) w') a w:=by
 obtain⟨h1,h2,h3⟩:=Oper.apart_spec hap
 have ck:∀(a:Act),er P ops I oi v a→∀u,er P ops I oi v (a.put oj.dst u):=fun a hy u=>
  hy.of_same (execOp_put oi hsi a oj.dst u h3) (wanted_put oi a oj.dst u h3)
 have keepD:∀d,er P ops I oi v { a with defers:=d::a.defers } :=fun d=>hy.of_same rfl rfl
 unfold wpOp at*;simp only [hj]at*;rw [wanted_put oj a oi.dst v h1]at h
 split
 ·rename_i hw
  simp only [hw,if_true]at h;rcases h with h|⟨hasks,hlets⟩
  case inr=>exact .inr ⟨by unfold Oper.asks at*;rw [execOp_put oj hsj a oi.dst v h1]at hasks;exact hasks,hlets⟩
  refine .inl ?_;unfold Oper.wp at*;rw [execOp_put oj hsj a oi.dst v h1]at h;generalize (execOp a.eval oj).run P w=r at*
  cases r with
  |ok n w'=>
   cases n<;>simp only [Oper.upon]at h ⊢
   case value u=>exact⟨ck a hy u,by rw [←Act.put_comm a v u h2];exact h⟩
   case skip=>exact⟨ck a hy _,by rw [←Act.put_comm a v undef h2];exact h⟩
   case defer d=>
    refine⟨ck _ (keepD d) _,?_⟩;rw [←Act.put_comm _ v undef h2,←Act.put_defers];exact h
   case enter f args=>
    refine Calls.mono h fun e w'' he=> ?_
    cases e with
    |returned u=>exact⟨ck a hy u,by rw [←Act.put_comm a v u h2];exact he⟩
    |panicked c=>exact hQ _ _ _ he
    |outgrown=>exact he
   case row row args=>exact Rows.mono h fun u w'' he=>⟨ck a hy u,by rw [←Act.put_comm a v u h2];exact he⟩
  |halt x w'=>
   cases x<;>simp only [Oper.upon]at h ⊢
   case panic u=>exact hQ _ _ _ h
 ·rename_i hw
  simp only [hw]at h;exact⟨ck a hy _,by rw [←Act.put_comm a v undef h2];exact h⟩
theorem uD:∀(fuel:Nat) (L L':List o7) (listed:Array Bool) (a:Act) (w:World),(∀p∈L',p∈L)→fu P md ops Q fuel L listed a w→fu P md ops Q fuel L' listed a w:=by
 intro fuel
 induction fuel with
 |zero=>intro L L' listed a w hs h;exact⟨fun p hp=>h.1 p (hs p hp),h.2⟩
 |succ fuel ih=>
  intro L L' listed a w hs h;refine⟨fun p hp=>h.1 p (hs p hp),h.2.1,fun k hk=>wpOp_mono (fun a w h'=>ih _ _ _ a w (fun p hp=> ?_) h') (h.2.2 k hk)⟩;rw [List.mem_filter]at hp ⊢;exact⟨hs p hp.1,hp.2⟩
def Down(md:Region.Mode)(ops:Array Oper)(listed:Array Bool):Prop:=
 ∀k ok,ops[k]? =some ok→listed.getD k false=true→∀e∈ok.after,Region.binds md e=true→listed.getD e.on false=true
theorem Down.step{listed:Array Bool}(h:Down md ops listed){i:Nat}(hi:i∈Region.ready md ops listed):Down md ops (listed.setIfInBounds i true):=by
 intro k ok hk hl e he hb;obtain⟨_,oi,hoi,hall⟩:=mem_ready.1 hi
 by_cases hki:k=i
 ·subst hki
  rw [hoi]at hk;injection hk with hk;subst hk
  exact getD_set_true (hall e he hb)
 ·rw [getD_set_ne false (Ne.symm hki)]at hl
  exact getD_set_true (h k ok hk hl e he hb)
theorem tc{D:o7}{i:Nat}{oi:Oper}{v:Value}(hi:ops[i]? =some oi)(hsel:∀(j:Nat) (o:Oper) cs b,ops[j]? =some o→o.op≠ .select cs b)
  (hQ:∀c a w,Q (.panic c) (a.put oi.dst v) w→Q (.panic c) a w)
  (hdep:∀(listed:Array Bool) (j:Nat),Down md ops listed→j∈Region.ready md ops listed→listed.getD i true=false→D.dep j=false):
  ∀(fuel:Nat) (L:List o7) (listed:Array Bool) (a:Act) (w:World),Down md ops listed→
   (∀j oj,ops[j]? =some oj→j≠i→listed.getD j true=false→(∀e∈oj.after,Region.binds md e=true→e.on≠i)→oi.apart ops oj=true)→
   i∈Region.ready md ops listed→er P ops D.inv oi v a→
   fu P md ops Q fuel (D::L) (listed.setIfInBounds i true) (a.put oi.dst v) w→fu P md ops Q (fuel+1) L listed a w:=by
 intro fuel
 have held:∀(fuel:Nat) (L:List o7) (listed:Array Bool) (a:Act) (w:World),fu P md ops Q fuel L listed a w→∀p∈L,p.inv w:=by
  intro fuel;cases fuel<;>exact fun _ _ _ _ h=>h.1
 induction fuel with
 |zero=>
  intro L listed a w _ _ hr hy H;refine⟨fun p hp=>H.1 p (List.mem_cons_of_mem _ hp),fun h=>(by rw [h]at hr;cases hr),fun j hj=> ?_⟩
  by_cases hji:j=i
  ·subst hji
   exact hy.wpOp hi (H.1 D List.mem_cons_self) ⟨fun p hp=>H.1 p (List.mem_cons_of_mem _ (List.mem_filter.1 hp).1),H.2⟩
  ·have:=ready_mono hj hji
   rw [H.2.1]at this
   cases this
 |succ fuel ih=>
  intro L listed a w hdown hfree hr hy H;refine⟨fun p hp=>H.1 p (List.mem_cons_of_mem _ hp),fun h=>(by rw [h]at hr;cases hr),fun j hj=> ?_⟩
  by_cases hji:j=i
  ·subst hji
   exact hy.wpOp hi (H.1 D List.mem_cons_self) (uD _ _ _ _ _ _ (fun p hp=>List.mem_cons_of_mem _ (List.mem_filter.1 hp).1) H)
  ·have h1:=H.2.2 j (ready_mono hj hji)
   obtain⟨hjun,oj,hoj,hall⟩:=mem_ready.1 hj;have hiun:=(mem_ready.1 hr).1
   have hnot:∀e∈oj.after,Region.binds md e=true→e.on≠i:=fun e he hb heq=>by
    have h1:=hall e he hb;have h0:=hiun;rw [heq]at h1;rcases Nat.lt_or_ge i listed.size with h'|h'
    ·simp [h']at h0 h1;rw [h0]at h1;cases h1
    ·simp [Array.getElem?_eq_none h']at h1
   have hap:=hfree j oj hoj hji hjun hnot;have hd:=hdep listed j hdown hj hiun;have h2:=Ac hoj hap (fun cs b=>hsel i oi cs b hi) (fun cs b=>hsel j oj cs b hoj) hQ hy h1
   have hfree':∀k ok,ops[k]? =some ok→k≠i→(listed.setIfInBounds j true).getD k true=false→
     (∀e∈ok.after,Region.binds md e=true→e.on≠i)→oi.apart ops ok=true:=fun k ok hk hki hun hno=>by
    refine hfree k ok hk hki ?_ hno
    by_cases hjk:j=k
    ·subst hjk;exact hjun
    ·rw [getD_set_ne true hjk]at hun;exact hun
   refine wpOp_mono (fun a' w' h3=> ?_) h2;have h4:=h3.2;rw [List.filter_cons_of_pos (by simp [hd]),Array.setIfInBounds_comm _ _ (Ne.symm hji)]at h4;exact ih (L.filter fun p=> !p.dep j) (listed.setIfInBounds j true) a' w' (hdown.step hj) hfree' (ready_mono hr (Ne.symm hji)) h3.1 h4
def fe(md:Region.Mode)(acc:List Nat):List Edge→Nat
 | []=>0
 |e::es=>bif Region.binds md e then(1<<<e.on)|||(acc.getD e.on 0|||fe md acc es)else fe md acc es
def oU(md:Region.Mode):List Oper→List Nat→List Nat
 | [],acc=>acc
 |o::os,acc=>oU md os (acc++ [fe md acc o.after.toList])
def iI(md:Region.Mode)(ops:Array Oper):List Nat:=oU md ops.toList []
theorem rJ{acc:List Nat}{i:Nat} :∀(es:List Edge),(fe md acc es).testBit i=true→∃e∈es,Region.binds md e=true∧(i=e.on∨(acc.getD e.on 0).testBit i=true):=by
 intro es
 induction es with
 |nil=>intro h;simp [fe]at h
 |cons e es ih=>
  intro h;simp only [fe]at h
  cases hb:Region.binds md e with
  |false=>
   rw [hb]at h;obtain⟨e',he',h'⟩:=ih h;exact⟨e',List.mem_cons_of_mem _ he',h'⟩
  |true=>
   rw [hb]at h;simp only [cond_true,Nat.testBit_or,Bool.or_eq_true]at h;rcases h with h|h|h
   ·refine⟨e,List.mem_cons_self,hb,.inl ?_⟩
    rw [Nat.one_shiftLeft,Nat.testBit_two_pow]at h;simpa using (of_decide_eq_true h).symm
   ·exact⟨e,List.mem_cons_self,hb,.inr h⟩
   ·obtain⟨e',he',h'⟩:=ih h
    exact⟨e',List.mem_cons_of_mem _ he',h'⟩
theorem mY:∀(os:List Oper) (acc:List Nat) (k:Nat),k<acc.length→(oU md os acc)[k]? =acc[k]? :=by
 intro os
 induction os with
 |nil=>intro acc k _;rfl
 |cons o os ih=>
  intro acc k hk;rw [oU,ih _ _ (by simp;omega),List.getElem?_append_left hk]
theorem Ey:∀(os:List Oper) (acc:List Nat) (m:Nat) (o:Oper),os[m]? =some o→
  ∃acc',(oU md os acc)[acc.length+m]? =some (fe md acc' o.after.toList)∧acc'.length=acc.length+m∧∀k,k<acc'.length→(oU md os acc)[k]? =acc'[k]? :=by
 intro os
 induction os with
 |nil=>intro acc m o h;simp at h
 |cons o' os ih=>
  intro acc m o h
  cases m with
  |zero=>
   simp only [List.getElem?_cons_zero,Option.some.injEq]at h;subst h;refine⟨acc,?_,by simp,fun k hk=>mY _ _ _ hk⟩;rw [oU,mY _ _ _ (by simp)];simp
  |succ m=>
   simp only [List.getElem?_cons_succ]at h;obtain⟨acc',h1,h2,h3⟩:=ih (acc++ [fe md acc o'.after.toList]) m o h;refine⟨acc',?_,?_,h3⟩
   ·rw [oU]
    simp only [List.length_append,List.length_cons,List.length_nil]at h1;rw [show acc.length+(m+1)=acc.length+(0+1)+m by omega];exact h1
   ·simp only [List.length_append,List.length_cons,List.length_nil]at h2
    omega
theorem wy{listed:Array Bool}(hd:Down md ops listed){i:Nat}(hi:listed.getD i true=false):∀(n k:Nat) (ok:Oper),k<n→ops[k]? =some ok→
  (∀e∈ok.after,Region.binds md e=true→listed.getD e.on false=true)→((iI md ops).getD k 0).testBit i=false:=by
 intro n
 induction n with
 |zero=>intro k ok hk;exact absurd hk (Nat.not_lt_zero _)
 |succ n ih=>
  intro k ok hk hok hall
  cases hb:((iI md ops).getD k 0).testBit i with
  |false=>rfl
  |true=>
   exfalso;obtain⟨acc',h1,h2,h3⟩:=Ey (md:=md) ops.toList [] k ok (by simpa using hok);simp only [List.length_nil,Nat.zero_add]at h1 h2
   have hk0:(iI md ops).getD k 0=fe md acc' ok.after.toList:=by
    rw [List.getD_eq_getElem?_getD];unfold iI;rw [h1];rfl
   rw [hk0]at hb;obtain⟨e,he,hbind,hor⟩:=rJ _ hb;have hel:=hall e (by simpa using he) hbind;rcases hor with rfl|hbit
   ·rcases Nat.lt_or_ge e.on listed.size with h'|h'
    ·simp [h']at hi hel;rw [hi]at hel;cases hel
    ·simp [Array.getElem?_eq_none h']at hel
   ·have hlt:e.on<k:=by
      rcases Nat.lt_or_ge e.on k with h'|h'
      ·exact h'
      ·rw [List.getD_eq_getElem?_getD,List.getElem?_eq_none (by omega)]at hbit
       simp at hbit
    have hsame:acc'.getD e.on 0=(iI md ops).getD e.on 0:=by
     rw [List.getD_eq_getElem?_getD,List.getD_eq_getElem?_getD,←h3 e.on (by omega)];rfl
    rw [hsame]at hbit;have hop:e.on<ops.size:=Nat.lt_trans hlt (Array.getElem?_eq_some_iff.1 hok).1;have:=ih e.on ops[e.on] (by omega) (Array.getElem?_eq_getElem hop) (fun e' he' hb'=>hd e.on _ (Array.getElem?_eq_getElem hop) hel e' he' hb');rw [this]at hbit;cases hbit
theorem yA{listed:Array Bool}(hd:Down md ops listed){i j:Nat}(hi:listed.getD i true=false)(hj:j∈Region.ready md ops listed):((iI md ops).getD j 0).testBit i=false:=by
 obtain⟨_,oj,hoj,hall⟩:=mem_ready.1 hj;exact wy hd hi (j+1) j oj (Nat.lt_succ_self _) hoj hall
end
end
end Go.Sx
namespace Go.Sx
noncomputable section
variable {dfs : List Deferred}
def cEq:cJ→cJ→Bool
 | .lit a,.lit b=>decide (a=b)
 | .sub a d,.sub b e=>decide (a=b)&&decide (d=e)
 |_,_=>false
mutual
def ie:SV→SV→Bool
 | .v (.int k a),.v (.int k' b)=>kEq k k'&&decide (a=b)
 | .v (.bool a),.v (.bool b)=>decide (a=b)
 | .v (.string a),.v (.string b)=>decide (a.data.toList=b.data.toList)
 | .v (.pointer a),.v (.pointer b)=>decide (a=b)
 | .v (.slice a l c),.v (.slice b m d)=>decide (a=b)&&decide (l=m)&&decide (c=d)
 | .v (.map a),.v (.map b)=>decide (a=b)
 | .v .nilFunc,.v .nilFunc=>true
 | .v .nilIface,.v .nilIface=>true
 | .str l,.str m=>decide (l=m)
 | .ptr b o,.ptr b' o'=>decide (b=b')&&decide (o=o')
 | .slc b o l c,.slc b' o' l' c'=>decide (b=b')&&decide (o=o')&&decide (l=l')&&cEq c c'
 | .mp b,.mp b'=>decide (b=b')
 | .agg xs,.agg ys=>oy xs ys
 | .tup xs,.tup ys=>oy xs ys
 | .ifc t x,.ifc u y=>decide (t=u)&&ie x y
 | .fn f xs,.fn g ys=>decide (f=g)&&oy xs ys
 |_,_=>false
def oy:List SV→List SV→Bool
 | [], []=>true
 |x::xs,y::ys=>ie x y&&oy xs ys
 |_,_=>false
end
theorem cEq_eq{a b:cJ}(h:cEq a b=true):a=b:=by
 cases a<;>cases b<;>simp [cEq]at h
 ·rw [h]
 ·rw [h.1,h.2]
mutual
theorem te:∀(x y:SV),ie x y=true→x=y
 | .v x,.v y,h=>by
   cases x<;>cases y<;>simp [ie,ix]at h<;>first
    |rfl
    |(rw [h];done)
    |(rw [h.1,h.2];done)
    |(obtain⟨⟨h1,h2⟩,h3⟩:=h;rw [h1,h2,h3];done)
    |(congr 2;exact ByteArray.ext (Array.toList_inj.1 h))
    |(congr 2;exact ByteArray.ext h)
 | .str _,.str _,h=>by simp only [ie,decide_eq_true_eq]at h;rw [h]
 | .ptr _ _,.ptr _ _,h=>by simp only [ie,Bool.and_eq_true,decide_eq_true_eq]at h;rw [h.1,h.2]
 | .slc _ _ _ _,.slc _ _ _ _,h=>by
   simp only [ie,Bool.and_eq_true,decide_eq_true_eq]at h;obtain⟨⟨⟨h1,h2⟩,h3⟩,h4⟩:=h;rw [h1,h2,h3,cEq_eq h4]
 | .mp _,.mp _,h=>by simp only [ie,decide_eq_true_eq]at h;rw [h]
 | .agg xs,.agg ys,h=>by simp only [ie]at h;rw [mm xs ys h]
 | .tup xs,.tup ys,h=>by simp only [ie]at h;rw [mm xs ys h]
 | .ifc _ x,.ifc _ y,h=>by simp only [ie,Bool.and_eq_true,decide_eq_true_eq]at h;rw [h.1,te x y h.2]
 | .fn _ xs,.fn _ ys,h=>by simp only [ie,Bool.and_eq_true,decide_eq_true_eq]at h;rw [h.1,mm xs ys h.2]
 | .v _,.str _,h| .v _,.ptr _ _,h| .v _,.slc _ _ _ _,h| .v _,.mp _,h| .v _,.agg _,h| .v _,.tup _,h| .v _,.ifc _ _,h| .v _,.fn _ _,h=>by simp [ie]at h
 | .str _,.v _,h| .str _,.ptr _ _,h| .str _,.slc _ _ _ _,h| .str _,.mp _,h| .str _,.agg _,h| .str _,.tup _,h| .str _,.ifc _ _,h| .str _,.fn _ _,h=>by simp [ie]at h
 | .ptr _ _,.v _,h| .ptr _ _,.str _,h| .ptr _ _,.slc _ _ _ _,h| .ptr _ _,.mp _,h| .ptr _ _,.agg _,h| .ptr _ _,.tup _,h| .ptr _ _,.ifc _ _,h| .ptr _ _,.fn _ _,h=>by simp [ie]at h
 | .slc _ _ _ _,.v _,h| .slc _ _ _ _,.str _,h| .slc _ _ _ _,.ptr _ _,h| .slc _ _ _ _,.mp _,h| .slc _ _ _ _,.agg _,h| .slc _ _ _ _,.tup _,h| .slc _ _ _ _,.ifc _ _,h| .slc _ _ _ _,.fn _ _,h=>by simp [ie]at h
 | .mp _,.v _,h| .mp _,.str _,h| .mp _,.ptr _ _,h| .mp _,.slc _ _ _ _,h| .mp _,.agg _,h| .mp _,.tup _,h| .mp _,.ifc _ _,h| .mp _,.fn _ _,h=>by simp [ie]at h
 | .agg _,.v _,h| .agg _,.str _,h| .agg _,.ptr _ _,h| .agg _,.slc _ _ _ _,h| .agg _,.mp _,h| .agg _,.tup _,h| .agg _,.ifc _ _,h| .agg _,.fn _ _,h=>by simp [ie]at h
 | .tup _,.v _,h| .tup _,.str _,h| .tup _,.ptr _ _,h| .tup _,.slc _ _ _ _,h| .tup _,.mp _,h| .tup _,.agg _,h| .tup _,.ifc _ _,h| .tup _,.fn _ _,h=>by simp [ie]at h
 | .ifc _ _,.v _,h| .ifc _ _,.str _,h| .ifc _ _,.ptr _ _,h| .ifc _ _,.slc _ _ _ _,h| .ifc _ _,.mp _,h| .ifc _ _,.agg _,h| .ifc _ _,.tup _,h| .ifc _ _,.fn _ _,h=>by simp [ie]at h
 | .fn _ _,.v _,h| .fn _ _,.str _,h| .fn _ _,.ptr _ _,h| .fn _ _,.slc _ _ _ _,h| .fn _ _,.mp _,h| .fn _ _,.agg _,h| .fn _ _,.tup _,h| .fn _ _,.ifc _ _,h=>by simp [ie]at h
theorem mm:∀(l m:List SV),oy l m=true→l=m
 | [], [],_=>rfl
 |x::xs,y::ys,h=>by simp only [oy,Bool.and_eq_true]at h;rw [te x y h.1,mm xs ys h.2]
 | [],_::_,h=>by simp [oy]at h
 |_::_, [],h=>by simp [oy]at h
end
def dP(n:Nat)(k:Nat→Bool):Bool:=Nat.rec (motive:=fun _=>Bool) (k 0) (fun m _=>k (Nat.succ m)) n
theorem bV(n:Nat)(k:Nat→Bool):dP n k=k n:=by cases n<;>rfl
def shutC(c:cJ)(k:cJ→Bool):Bool:=match c with
 | .lit c=>dP c fun c=>k (.lit c)
 | .sub b d=>dP b fun b=>dP d fun d=>k (.sub b d)
def rT(x:SV)(k:SV→Bool):Bool:=match x with
 | .ptr b o=>dP b fun b=>dP o fun o=>k (.ptr b o)
 | .slc b o l c=>dP b fun b=>dP o fun o=>dP l fun l=>shutC c fun c=>k (.slc b o l c)
 | .mp b=>dP b fun b=>k (.mp b)
 |x=>k x
theorem uQ(x:SV)(k:SV→Bool):rT x k=k x:=by
 cases x with
 |ptr b o=>simp only [rT,bV]
 |slc b o l c=>cases c<;>simp only [rT,shutC,bV]
 |mp b=>simp only [rT,bV]
 |_=>rfl
def rU(h:HS)(k:HS→Bool):Bool:=match h with
 |⟨H,nx,M⟩=>dP nx fun nx=>k ⟨H,nx,M⟩
theorem kc(h:HS)(k:HS→Bool):rU h k=k h:=by
 cases h;simp only [rU,bV]
def dU(sz:Nat)(dst:Option Tmp)(v:SV)(F:T SV→Bool)(tm:T SV):Bool:=
 match dst with
 |none=>F tm
 |some d=>bif Nat.blt d sz then rT v (fun v=>F (tm.set d v))else false
theorem cD{sz:Nat}{dst:Option Tmp}{v:SV}{F:T SV→Bool}{tm:T SV}(h:dU sz dst v F tm){ρ:Nat→Loc}{nx:Nat}{a:Act}(A:cG dfs ρ tm sz nx a)(hv:v.lt ρ nx):
  ∃tm',F tm'∧cG dfs ρ tm' sz nx (a.put dst (v.den ρ)):=by
 unfold dU at h
 split at h
 ·exact⟨tm,h,A⟩
 ·rename_i d
  cases hb:Nat.blt d sz with
  |false=>rw [hb]at h;exact absurd h Bool.false_ne_true
  |true=>rw [hb]at h;rw [cond_true,uQ]at h;exact⟨_,h,A.put hv (Nat.le_of_ble_eq_true hb)⟩
def fQ:SV:= .v (.tuple #[])
def jI(dfs:List Deferred)(ρ:Nat→Loc)(h:HS)(sz:Nat)(K:T SV→HS→Bool)(a':Act)(w':World):Prop:=
 ∃tm' h' ρ',K tm' h'∧cG dfs ρ' tm' sz h'.nx a'∧aL ρ' h' w'∧Ext ρ ρ' h.nx∧h.nx≤h'.nx∧h.M.le h'.M
theorem jI.trans{ρ ρ':Nat→Loc}{h h':HS}{sz:Nat}{K:T SV→HS→Bool}{a:Act}{w:World}(g:jI dfs ρ' h' sz K a w)(hx:Ext ρ ρ' h.nx)(hn:h.nx≤h'.nx)(hm:h.M.le h'.M):jI dfs ρ h sz K a w:=by
 obtain⟨tm2,h2,ρ2,k,A,H,x,n,m⟩:=g;exact⟨tm2,h2,ρ2,k,A,H,hx.trans x hn,Nat.le_trans hn n,Mem.le_trans hm m⟩
def jO(dfs:List Deferred)(ρ:Nat→Loc)(h:HS)(sz:Nat)(E:SV→T SV→HS→Bool)(c:List PanicEntry)(a':Act)(w':World):Prop:=
 ∃x tm' h' ρ',c=pnc (x.den ρ')∧x.lt ρ' h'.nx∧E x tm' h'∧cG dfs ρ' tm' sz h'.nx a'∧aL ρ' h' w'∧Ext ρ ρ' h.nx∧h.nx≤h'.nx∧h.M.le h'.M
theorem jO.trans{ρ ρ':Nat→Loc}{h h':HS}{sz:Nat}{E:SV→T SV→HS→Bool}{c:List PanicEntry}{a:Act}{w:World}(g:jO dfs ρ' h' sz E c a w)(hx:Ext ρ ρ' h.nx)(hn:h.nx≤h'.nx)(hm:h.M.le h'.M):jO dfs ρ h sz E c a w:=by
 obtain⟨x,tm2,h2,ρ2,e,l,k,A,H,x',n,m⟩:=g;exact⟨x,tm2,h2,ρ2,e,l,k,A,H,hx.trans x' hn,Nat.le_trans hn n,Mem.le_trans hm m⟩
structure cY where
 i:Nat
 o:Oper
 v:SV
def behind(cl:List Nat)(i j:Nat):Bool:=(cl.getD j 0).testBit i
def jw(ops:Array Oper)(L:List cY)(o:Oper):Bool:=
 match o.dst with
 |none=>true
 |some d=>L.all fun p=> !(p.o.looksAt ops).contains d
def E0(P:Program)(cl:List Nat)(p:cY)(ε:Operand→Value)(u:Value):o7:=⟨behind cl p.i,fun w=>(execOp ε p.o).run P w= .ok (.value u) w⟩
structure Fits(P:Program)(cl:List Nat)(ρ:Nat→Loc)(n:Nat)(a:Act)(p:cY)(D:o7)(ε:Operand→Value)(u:Value):Prop where
 eq:D=E0 P cl p ε u
 same:execOp a.eval p.o=execOp ε p.o
 val:u=p.v.den ρ
 lt:p.v.lt ρ n
 sel:∀cs b,p.o.op≠ .select cs b
theorem ek{ops:Array Oper}{L:List cY}{o:Oper}(h:jw ops L o=true){p:cY}(hp:p∈L)(hs:∀cs b,p.o.op≠ .select cs b)(a:Act)(v:Value):execOp (a.put o.dst v).eval p.o=execOp a.eval p.o:=by
 refine execOp_put (ops:=ops) p.o hs a o.dst v fun d hd=> ?_
 unfold jw at h;rw [hd]at h;have:=List.all_eq_true.1 h p hp;simpa using this
theorem kj{P:Program}{tm:T SV}{h:HS}{op:Op}{v:SV}(hr:dv P tm h op=some v):∀cs b,op≠ .select cs b:=by
 intro cs b e;subst e;simp [dv]at hr
end
end Go.Sx
namespace Go.Sx
noncomputable section
variable {dfs : List Deferred}
def oD(f:SV→Option (Bool×SV))(x:Option SV):Option (Bool×SV):=match x with
 |some x=>f x
 |none=>none
def zm(f:SV→SV→Option (Bool×SV))(x y:Option SV):Option (Bool×SV):=match x with
 |some x=>match y with
  |some y=>f x y
  |none=>none
 |none=>none
def pfPick(c a b:Option SV):Option (Bool×SV):=match c,a,b with
 |some c,some a,some b=>gg (r6 c a b)
 |some (.v (.bool true)),some a,none=>some (true,a)
 |some (.v (.bool false)),none,some b=>some (true,b)
 |_,_,_=>none
def pfBuild(P:Program)(tm:T SV)(t:TypeId)(parts:List (Nat×Operand)):Option (Bool×SV):=match jR tm (parts.map (·.2))with
 |some xs=>gg (nY P t ((parts.map (·.1)).zip xs))
 |none=>none
def pfFunc(tm:T SV)(fn:Fn)(first captured:Array Operand):Option (Bool×SV):=match fn with
 | .func f=>bif first.isEmpty then(match jR tm captured.toList with
   |some xs=>some (true,.fn f xs)
   |none=>none)else none
 |_=>none
def pfSlice(P:Program)(tm:T SV)(t:TypeId)(x:Operand)(lo hi mx:Option Operand):Option (Bool×SV):=match opd tm x,iE tm lo,iE tm hi,iE tm mx with
 |some x,some lo,some hi,some mx=>tj P t x lo hi mx
 |_,_,_,_=>none
def pfUn(op:UnOp)(x:SV):Option (Bool×SV):=gg (unV op x)
def pfConv(P:Program)(s d:TypeId)(x:SV):Option (Bool×SV):=gg (sO P s d x)
def pfIfc(P:Program)(t:TypeId)(x:SV):Option (Bool×SV):=gg (Bs P t x)
def vf(P:Program)(t:TypeId)(i:Nat)(x:SV):Option (Bool×SV):=gg (fK P t x i)
def pfField(P:Program)(t:TypeId)(i:Nat)(x:SV):Option (Bool×SV):=gg (nW P t x i)
def AK(i:Nat)(x:SV):Option (Bool×SV):=gg (je x i)
def Dg(P:Program)(t:TypeId)(ok:Bool)(x:SV):Option (Bool×SV):=gg (lq P t ok x)
def Dd(P:Program)(tm:T SV)(op:Op):Option (Bool×SV):=match op with
 | .move x=>gg (opd tm x)
 | .assign x=>gg (opd tm x)
 | .pick c a b=>pfPick (opd tm c) (opd tm a) (opd tm b)
 | .build t parts=>pfBuild P tm t parts.toList
 | .nilCheck x=>oD nilV (opd tm x)
 | .binOp op t x y _=>zm (Cc P op t (isCst y)) (opd tm x) (opd tm y)
 | .unOp op _ x=>oD (pfUn op) (opd tm x)
 | .convert s d x=>oD (pfConv P s d) (opd tm x)
 | .makeInterface t x=>oD (pfIfc P t) (opd tm x)
 | .makeFunc fn first caps=>pfFunc tm fn first caps
 | .slice t x lo hi mx=>pfSlice P tm t x lo hi mx
 | .fieldAddr t x i=>oD (vf P t i) (opd tm x)
 | .field t x i=>oD (pfField P t i) (opd tm x)
 | .indexAddr t x i=>zm (fI P t) (opd tm x) (opd tm i)
 | .index t x i=>zm (nN P t) (opd tm x) (opd tm i)
 | .extract x i=>oD (AK i) (opd tm x)
 | .typeAssert x _ t ok=>oD (Dg P t ok) (opd tm x)
 | .call c=>qd P tm c
 |_=>none
theorem qk(f:SV→SV→Option (Bool×SV))(x y:Option SV):zm f x y=(match x,y with|some x,some y=>f x y|_,_=>none):=by cases x<;>cases y<;>rfl
theorem uY(P:Program)(tm:T SV)(op:Op):Dd P tm op=Dc P tm op:=by
 cases op with
 |binOp op t x y u=>exact qk _ _ _
 |indexAddr t x i=>exact qk _ _ _
 |index t x i=>exact qk _ _ _
 |makeFunc fn first caps=>cases fn<;>rfl
 |_=>rfl
def rfLoad(P:Program)(h:HS)(t:TypeId)(x:Option SV):Option SV:=match x with
 |some x=>iw P h t x
 |none=>none
def CM(P:Program)(h:HS)(t:TypeId)(ok:Bool)(x k:Option SV):Option SV:=match x with
 |some x=>match k with
  |some k=>mK P h t x k ok
  |none=>none
 |none=>none
def rfConv(P:Program)(h:HS)(s d:TypeId)(x:Option SV):Option SV:=match x with
 |some x=>cvV P h s d x
 |none=>none
def rfEntry(h:HS)(x:Option SV):Option SV:=match x with
 |some x=>kH h x
 |none=>none
def readF(P:Program)(tm:T SV)(h:HS)(op:Op):Option SV:=match op with
 | .load t x=>rfLoad P h t (opd tm x)
 | .lookup t x k ok=>CM P h t ok (opd tm x) (opd tm k)
 | .convert s d x=>rfConv P h s d (opd tm x)
 | .entry x=>rfEntry h (opd tm x)
 | .call c=>dv P tm h (.call c)
 |_=>none
theorem Ar(P:Program)(h:HS)(t:TypeId)(ok:Bool)(x k:Option SV):CM P h t ok x k=(match x,k with|some x,some k=>mK P h t x k ok|_,_=>none):=by cases x<;>cases k<;>rfl
theorem CU(P:Program)(tm:T SV)(h:HS)(op:Op):readF P tm h op=dv P tm h op:=by
 cases op with
 |lookup t x k ok=>exact Ar _ _ _ _ _ _
 |_=>rfl
def rdK(r:Option (List Value))(F:List Value→Bool):Bool:=match r with
 |some vs=>F vs
 |none=>false
def oneK(vs:List Value)(F:SV→Bool):Bool:=match vs with
 | [v]=>F (.v v)
 |_=>false
def lv(r:Option SV)(F:SV→Bool):Bool:=match r with
 |some v=>F v
 |none=>false
def DQ(P:Program)(h:HS)(t:TypeId)(x:SV)(F:SV→Bool):Bool:=match x with
 | .v (.pointer (some ⟨g,o,none⟩))=>bif h.M.X.op then(match ty P t with
    |some s=>rdK (h.M.A.rd g o s.size) fun vs=>bif TypeDesc.isAgg s.und then F (.v (.agg vs.toArray))else oneK vs F
    |none=>false)else lv (iw P h t x) F
 |x=>lv (iw P h t x) F
theorem DP(P:Program)(h:HS)(t:TypeId)(x:SV)(F:SV→Bool):DQ P h t x F=lv (iw P h t x) F:=by
 unfold DQ
 split
 ·rename_i g o
  cases hop:h.M.X.op with
  |false=>rfl
  |true=>
   simp only [cond_true];unfold iw
   cases ht:ty P t with
   |none=>rfl
   |some s=>
    simp only [hop,cond_true];unfold DS rdK
    cases h.M.A.rd g o s.size with
    |none=>rfl
    |some vs=>
     simp only
     cases TypeDesc.isAgg s.und with
     |true=>rfl
     |false=>
      simp only [cond_false]
      match vs with
      | []=>rfl
      | [v]=>rfl
      |_::_::_=>rfl
 ·rfl
def lkK(r:Option (Option Value))(F:Option Value→Bool):Bool:=match r with
 |some r=>F r
 |none=>false
def enK(r:Option Value)(F:SV→Bool):Bool:=match r with
 |some v=>F (.v v)
 |none=>false
def lukC(P:Program)(h:HS)(t:TypeId)(ok:Bool)(x k:SV)(F:SV→Bool):Bool:=match x with
 | .v (.map (some g))=>bif h.M.X.op then(match ty P t with
    |none=>false
    |some s=>match s.und with
     | .map kt et=>match ty P kt,ty P et with
       |some sk,some se=>match yh sk.und k with
        |some kv=>lkK (h.M.A.look g kv) fun r=>F (sE ok se.zero r)
        |none=>false
       |_,_=>false
     |_=>false)else false
 |x=>lv (mK P h t x k ok) F
theorem lukC_eq(P:Program)(h:HS)(t:TypeId)(ok:Bool)(x k:SV)(F:SV→Bool):lukC P h t ok x k F=lv (mK P h t x k ok) F:=by
 unfold lukC
 split
 ·rename_i g
  cases hop:h.M.X.op with
  |false=>simp only [mK,hop,cond_false];rfl
  |true=>
   simp only [cond_true,mK,hop];unfold zv
   cases ty P t with
   |none=>rfl
   |some s=>
    simp only
    cases s.und with
    |map kt et=>
     simp only
     cases ty P kt with
     |none=>rfl
     |some sk=>
      cases ty P et with
      |none=>rfl
      |some se=>
       simp only
       cases yh sk.und k with
       |none=>rfl
       |some kv=>
        simp only
        cases h.M.A.look g kv with
        |none=>rfl
        |some r=>rfl
    |_=>rfl
 ·rfl
def entC(h:HS)(x:SV)(F:SV→Bool):Bool:=match x with
 | .v (.pointer (some ⟨i,0,none⟩))=>bif h.M.X.op then enK (h.M.A.ent i) F else false
 |x=>lv (kH h x) F
theorem entC_eq(h:HS)(x:SV)(F:SV→Bool):entC h x F=lv (kH h x) F:=by
 unfold entC
 split
 ·rename_i i
  cases hop:h.M.X.op with
  |false=>simp only [kH,hop,cond_false];rfl
  |true=>
   simp only [cond_true,kH,hop]
   cases h.M.A.ent i with
   |none=>rfl
   |some r=>rfl
 ·rfl
def ctK(r:Option Nat)(F:Nat→Bool):Bool:=match r with
 |some n=>F n
 |none=>false
def lenC(P:Program)(tm:T SV)(h:HS)(c:Call)(F:SV→Bool):Bool:=match c.callee with
 | .builtin .len=>(match c.argTypes.toList,jR tm c.args.toList with
   | [t],some [.v (.map (some g))]=>bif h.M.X.op then(match ty P t with
     |some s=>bif o5 s.und then ctK (h.M.A.cnt g) fun n=>F (.v (.int .i64 n))else false
     |none=>false)else false
   |_,_=>lv (dv P tm h (.call c)) F)
 |_=>lv (dv P tm h (.call c)) F
theorem lenC_eq(P:Program)(tm:T SV)(h:HS)(c:Call)(F:SV→Bool):lenC P tm h c F=lv (dv P tm h (.call c)) F:=by
 unfold lenC
 split
 ·rename_i hc
  split
  ·rename_i t g ht hx
   simp only [dv,hc,ht,hx]
   cases hop:h.M.X.op with
   |false=>rfl
   |true=>
    simp only [cond_true]
    cases ty P t with
    |none=>rfl
    |some s=>
     simp only
     cases o5 s.und with
     |false=>rfl
     |true=>
      simp only [cond_true]
      cases h.M.A.cnt g with
      |none=>rfl
      |some n=>rfl
  ·rfl
 ·rfl
def byK(r:Option (List UInt8))(F:List UInt8→Bool):Bool:=match r with
 |some l=>F l
 |none=>false
def strC(h:HS)(a:Addr)(n:Nat)(F:SV→Bool):Bool:=bif Nat.beq n 0 then F (.str [])else match a with
 |⟨g,o,none⟩=>rdK (h.M.A.rd g o n) fun vs=>byK (ff vs) fun bs=>F (.v (.string ⟨bs.toArray⟩))
 |_=>false
theorem strC_eq(h:HS)(a:Addr)(n:Nat)(F:SV→Bool):strC h a n F=lv (strA h a n) F:=by
 unfold strC strA
 cases Nat.beq n 0 with
 |true=>rfl
 |false=>
  simp only [cond_false];obtain⟨g,o,t⟩:=a
  cases t with
  |some t=>rfl
  |none=>
   show rdK (h.M.A.rd g o n) _=lv (match h.M.A.rd g o n with
    |some vs=>(match ff vs with
     |some bs=>some (SV.v (.string ⟨bs.toArray⟩))
     |none=>none)
    |none=>none) F
   generalize h.M.A.rd g o n=r
   cases r with
   |none=>rfl
   |some vs=>
    show byK (ff vs) _=lv (match ff vs with
     |some bs=>some (SV.v (.string ⟨bs.toArray⟩))
     |none=>none) F
    generalize ff vs=q
    cases q<;>rfl
def cvC(P:Program)(h:HS)(s d:TypeId)(x:SV)(F:SV→Bool):Bool:=match x with
 | .v (.slice (some a) n _)=>(match ty P s,ty P d with
   |some s,some d=>(match s.und,d.und with
    | .slice e,.string=>(match ty P e with
      |some se=>bif o4 se.und then(bif h.M.X.op then strC h a n F else false)else false
      |none=>false)
    |_,_=>false)
   |_,_=>false)
 |x=>lv (cvV P h s d x) F
theorem cvC_eq(P:Program)(h:HS)(s d:TypeId)(x:SV)(F:SV→Bool):cvC P h s d x F=lv (cvV P h s d x) F:=by
 unfold cvC
 split
 ·rename_i a n c
  simp only [cvV,unsV,th]
  cases ty P s with
  |none=>rfl
  |some s'=>
   cases ty P d with
   |none=>rfl
   |some d'=>
    dsimp only;generalize s'.und=su;generalize d'.und=du
    cases su<;>first
     |rfl
     |(cases du<;>first
        |rfl
        |(rename_i e
          dsimp only
          cases ty P e with
          |none=>rfl
          |some se=>
           dsimp only
           cases o4 se.und with
           |false=>rfl
           |true=>
            simp only [cond_true]
            cases h.M.X.op with
            |false=>rfl
            |true=>
             simp only [cond_true]
             exact strC_eq h a n F))
 ·rfl
def qa(P:Program)(tm:T SV)(h:HS)(op:Op)(F:SV→Bool):Bool:=match op with
 | .call c=>lenC P tm h c F
 | .load t x=>(match opd tm x with
    |some x=>DQ P h t x F
    |none=>false)
 | .lookup t x k ok=>(match opd tm x with
    |some x=>(match opd tm k with
     |some k=>lukC P h t ok x k F
     |none=>false)
    |none=>false)
 | .entry x=>(match opd tm x with
    |some x=>entC h x F
    |none=>false)
 | .convert s d x=>(match opd tm x with
    |some x=>cvC P h s d x F
    |none=>false)
 |op=>lv (readF P tm h op) F
theorem mA(P:Program)(tm:T SV)(h:HS)(op:Op)(F:SV→Bool):qa P tm h op F=(match dv P tm h op with
 |some v=>F v
 |none=>false):=by
 unfold qa
 split
 ·rw [lenC_eq];rfl
 ·rename_i t x
  simp only [dv]
  cases opd tm x with
  |none=>rfl
  |some x=>
   simp only [DP];rfl
 ·rename_i t x k ok
  simp only [dv]
  cases opd tm x with
  |none=>rfl
  |some x=>
   cases opd tm k with
   |none=>rfl
   |some k=>
    simp only [lukC_eq];rfl
 ·rename_i x
  simp only [dv]
  cases opd tm x with
  |none=>rfl
  |some x=>
   simp only [entC_eq];rfl
 ·rename_i s d x
  simp only [dv]
  cases opd tm x with
  |none=>rfl
  |some x=>
   simp only [cvC_eq];rfl
 ·rw [CU];rfl
def efBox(h:HS)(t:TypeId)(K:SV→HS→Bool)(x:Option SV):Bool:=match x with
 |some x=>EL h t x K
 |none=>false
def efStore(P:Program)(h:HS)(t:TypeId)(K:SV→HS→Bool)(a x:Option SV):Bool:=match a,x with
 |some a,some x=>ti P h t a x K
 |_,_=>false
def efMake(P:Program)(h:HS)(t:TypeId)(K:SV→HS→Bool)(l c:Option SV):Bool:=match l,c with
 |some l,some c=>vB P h t l c K
 |_,_=>false
def efPut(P:Program)(h:HS)(t:TypeId)(K:SV→HS→Bool)(m k v:Option SV):Bool:=match m,k,v with
 |some m,some k,some v=>C9 P h t m k v K
 |_,_,_=>false
def efRange(P:Program)(h:HS)(t:TypeId)(K:SV→HS→Bool)(x:Option SV):Bool:=match x with
 |some x=>tx P h t x K
 |none=>false
def efNext(h:HS)(i:Bool)(K:SV→HS→Bool)(x:Option SV):Bool:=match x with
 |some x=>zn h x i K
 |none=>false
def efVal(call:da)(h:HS)(K E:SV→HS→Bool)(f:Option SV)(args:Option (List SV)):Bool:=match f with
 |some fv=>match ER fv,args with
  |some (f,caps),some xs=>call f (xs++caps) h K E
  |_,_=>false
 |none=>false
def efConv(P:Program)(h:HS)(s d:TypeId)(K:SV→HS→Bool)(x:Option SV):Bool:=match x with
 |some x=>zT P h s d x K
 |none=>false
def yy(P:Program)(call:da)(tm:T SV)(h:HS)(c:Call)(K E:SV→HS→Bool):Bool:=match c.callee with
 | .value f=>efVal call h K E (opd tm f) (jR tm c.args.toList)
 |_=>sP P call tm h c K E
def effF(P:Program)(call:da)(tm:T SV)(h:HS)(op:Op)(K E:SV→HS→Bool):Bool:=match op with
 | .alloc t=>rm P h t K
 | .box t x=>efBox h t K (opd tm x)
 | .store t a x=>efStore P h t K (opd tm a) (opd tm x)
 | .makeSlice t l c=>efMake P h t K (opd tm l) (opd tm c)
 | .mapUpdate t m k v=>efPut P h t K (opd tm m) (opd tm k) (opd tm v)
 | .insert t m k v=>efPut P h t K (opd tm m) (opd tm k) (opd tm v)
 | .range t x=>efRange P h t K (opd tm x)
 | .next x i=>efNext h i K (opd tm x)
 | .call c=>yy P call tm h c K E
 | .convert s d x=>efConv P h s d K (opd tm x)
 |op=>uh P call tm h op K E
theorem BK(P:Program)(call:da)(tm:T SV)(h:HS)(c:Call)(K E:SV→HS→Bool):yy P call tm h c K E=sP P call tm h c K E:=by
 unfold yy
 split
 ·rename_i f hf
  unfold sP;rw [hf];rfl
 ·rfl
theorem zR(P:Program)(call:da)(tm:T SV)(h:HS)(op:Op)(K E:SV→HS→Bool):effF P call tm h op K E=uh P call tm h op K E:=by
 cases op with
 |call c=>exact BK _ _ _ _ _ _ _
 |_=>rfl
def xp(P:Program)(t:TypeId)(x:SV)(lo hi:Option SV):Option (SV×SV):=
 match ty P t with
 |none=>none
 |some s=>match s.und with
  | .slice e=>match ty P e with
    |none=>none
    |some se=>match x with
     | .slc b o len (.sub b' d)=>match bounds len len lo hi none with
       |some (r,l,h,_)=>bif r&&Nat.beq l h then some (.slc b o 0 (.lit 0),.slc b (o+l*se.size) 0 (.sub b' (d+l)))else none
       |none=>none
     |_=>none
  |_=>none
theorem xn{P:Program}{t:TypeId}{x A B:SV}{lo hi:Option SV}(h:xp P t x lo hi=some (A,B)){ρ:Nat→Loc}{n:Nat}(hx:x.lt ρ n):
  ∃z,(z=A∨z=B)∧z.lt ρ n∧∀w,(Instr.sliceAt t (x.den ρ) (lo.map (SV.den ρ)) (hi.map (SV.den ρ)) none).run P w= .ok (z.den ρ) w:=by
 unfold xp at h
 split at h
 ·cases h
 ·rename_i s hs
  split at h
  ·rename_i e hd
   split at h
   ·cases h
   ·rename_i se hse
    split at h
    ·rename_i b o len b' d
     have hlen:len≤(ρ b').cap-d:=hx.2.2
     split at h
     ·rename_i r l h' m hb
      cases hc:r&&Nat.beq l h' with
      |false=>rw [hc]at h;cases h
      |true=>
       rw [hc]at h;simp only [cond_true,Option.some.injEq,Prod.mk.injEq]at h;obtain⟨rfl,rfl⟩:=h;simp only [Bool.and_eq_true]at hc;obtain⟨h1,hz⟩:=hc;have hz:=Nat.eq_of_beq_eq_true hz;subst hz
       have hb':bounds len ((ρ b').cap-d) lo hi none=some (true,l,l,(ρ b').cap-d):=by
        unfold bounds at hb ⊢;simp only at hb ⊢
        split at hb
        ·rename_i li hv hl hh
         injection hb with hb;injection hb with k1 hb;injection hb with k2 hb;injection hb with k3 k4
         rw [h1]at k1;simp only [k2,k3];simp only [Bool.and_eq_true,decide_eq_true_eq,Bool.or_eq_true]at k1
         have:(decide (0≤li)&&decide (li≤hv)&&(hi.isNone||decide (hv≤(((ρ b').cap-d:Nat):Int))))=true:=by
          simp only [Bool.and_eq_true,decide_eq_true_eq,Bool.or_eq_true];exact⟨k1.1,k1.2.imp id (fun _=>by omega)⟩
         rw [this]
        ·cases hb
       have hle:l≤len:=by
        obtain⟨_,_,g5,g6,_,g8⟩:=cP (P:=P) hb h1 ρ default true
        cases hi with
        |none=>have:=g8 rfl;omega
        |some _=>have:=g5 rfl;have:=g6 rfl;omega
       have hrun:∀w:World,(Instr.sliceAt t ((SV.slc b o len (.sub b' d)).den ρ) (lo.map (SV.den ρ)) (hi.map (SV.den ρ)) none).run P w=
         .ok (.slice (if (ρ b').cap-d-l=0 then some ⟨(ρ b).blk,(ρ b).off+o,none⟩else some (Addr.add ⟨(ρ b).blk,(ρ b).off+o,none⟩ (l*se.size))) (l-l) ((ρ b').cap-d-l)) w:=by
        intro w;obtain⟨h3,_⟩:=cP (P:=P) hb' rfl ρ w true;simp only [Option.map_none]at h3;have hu:=aq w hs;simp only [Instr.sliceAt,Sem.run_bind,hu,hd,Result.andThen_ok,Instr.slice,SV.den,cJ.den];simp only [h3,bp w hse,Result.andThen_ok,Sem.run_pure];congr 2
        by_cases h0:(ρ b').cap-d-l=0
        ·rw [if_pos h0,if_pos (by omega)]
        ·rw [if_neg h0,if_neg (by omega)];rfl
       by_cases h0:(ρ b').cap-d-l=0
       ·refine⟨.slc b o 0 (.lit 0),.inl rfl,⟨hx.1,trivial,Nat.zero_le _⟩,fun w=> ?_⟩
        rw [hrun w,if_pos h0,h0];simp [SV.den,cJ.den]
       ·refine⟨.slc b (o+l*se.size) 0 (.sub b' (d+l)),.inr rfl,⟨hx.1,hx.2.1,Nat.zero_le _⟩,fun w=> ?_⟩
        rw [hrun w,if_neg h0];simp [SV.den,cJ.den,cE,Nat.add_assoc,Nat.sub_add_eq]
     ·cases h
    ·cases h
  ·cases h
def altF(P:Program)(tm:T SV)(op:Op):Option (SV×SV):=match op with
 | .slice t x lo hi mx=>match mx with
   |none=>match opd tm x,iE tm lo,iE tm hi with
    |some x,some lo,some hi=>xp P t x lo hi
    |_,_,_=>none
   |some _=>none
 |_=>none
theorem wP{P:Program}{tm:T SV}{op:Op}{A B:SV}(h:altF P tm op=some (A,B)){ρ:Nat→Loc}{sz nx:Nat}{a:Act}(R:cG dfs ρ tm sz nx a)(o:Oper)(ho:o.op=op):
  ∃z,(z=A∨z=B)∧z.lt ρ nx∧∀w,(execOp a.eval o).run P w= .ok (.value (z.den ρ)) w:=by
 unfold altF at h
 split at h
 ·split at h
  ·split at h
   ·rename_i x lo hi hx hlo hhi
    obtain⟨h1,h2⟩:=aT R hx;obtain⟨z,k1,k2,k3⟩:=xn h h2;refine⟨z,k1,k2,fun w=> ?_⟩;unfold execOp;rw [ho];have k3:=k3 w;simp only [Sem.run_bind,h1,gQ R hlo,gQ R hhi,Option.map_none,k3,Result.andThen_ok,Sem.run_pure]
   ·cases h
  ·cases h
 ·cases h
def zV(x:Option (SV×SV))(F:SV→Bool):Bool:=match x with
 |some (a,b)=>bif F a then F b else false
 |none=>false
theorem wF{x:Option (SV×SV)}{F:SV→Bool}(h:zV x F=true):∃a b,x=some (a,b)∧F a=true∧F b=true:=by
 unfold zV at h
 split at h
 ·rename_i a b
  cases ha:F a with
  |false=>rw [ha]at h;exact absurd h Bool.false_ne_true
  |true=>rw [ha]at h;exact⟨a,b,rfl,ha,h⟩
 ·exact absurd h Bool.false_ne_true
end
end Go.Sx
