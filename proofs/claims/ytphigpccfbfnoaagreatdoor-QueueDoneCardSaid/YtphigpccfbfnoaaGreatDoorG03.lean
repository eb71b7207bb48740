/-
  Parts of the proof: SxE SxF
-/
import Derived.Test.YtphigpccfbfnoaaGreatDoorG02
set_option maxRecDepth 100000
set_option maxHeartbeats 0
namespace Go.Sx
noncomputable section
def bnd(dflt:Nat):Option SV→Option Int
 |none=>some dflt
 |some x=>x.int?.map (·.2)
theorem dq{P:Program}{k:IntKind}{n:Int}{y:Nat}(h0:0≤n)(h1:n≤y)(c:BoundsCode)(w:World):(Instr.sliceBound (.int k n) y c).run P w= .ok n.toNat w:=by
 simp [Instr.sliceBound,asIntOf,h0,h1]
def bounds(len cap:Nat)(lo hi mx:Option SV):Option (Bool×Nat×Nat×Nat):=
 match mx with
 |none=>match bnd 0 lo,bnd len hi with
  |some l,some h=>some (decide (0≤l)&&decide (l≤h)&&(hi.isNone||decide (h≤cap)),l.toNat,h.toNat,cap)
  |_,_=>none
 |some m=>match bnd 0 lo,hi,m.int? with
  |some l,some hv,some (_,m)=>match hv.int? with
   |some (_,h)=>some (decide (0≤l)&&decide (l≤h)&&decide (h≤m)&&decide (m≤cap),l.toNat,h.toNat,m.toNat)
   |none=>none
  |_,_,_=>none
theorem dz{P:Program}{len cap:Nat}{lo hi mx:Option SV}{r:Bool}{l h m:Nat}(hb:bounds len cap lo hi mx=some (r,l,h,m))(hr:r=true)(ρ:Nat→Loc)(w:World)(b:Bool):
  (Instr.sliceBounds b len cap (lo.map (SV.den ρ)) (hi.map (SV.den ρ)) (mx.map (SV.den ρ))).run P w= .ok (l,h,m) w∧l≤h∧(hi.isSome=true→h≤m)∧(mx=none→m=cap)∧(mx.isSome=true→m≤cap)∧(hi=none→h=len):=by
 subst hr;unfold bounds at hb
 split at hb
 ·split at hb
  ·rename_i li hv hl hh
   injection hb with hb;injection hb with h1 hb;injection hb with h2 hb;injection hb with h3 h4
   subst h2;subst h3;subst h4
   simp only [Bool.and_eq_true,decide_eq_true_eq,Bool.or_eq_true,Option.isNone_iff_eq_none]at h1;obtain⟨⟨h0,hle⟩,hcap⟩:=h1;refine⟨?_,by omega,?_,fun _=>rfl,by simp,?_⟩
   ·cases hi with
    |none=>
     simp only [bnd,Option.some.injEq]at hh;subst hh
     cases lo with
     |none=>
      simp only [bnd,Option.some.injEq]at hl;subst hl
      rfl
     |some x=>
      simp only [bnd,Option.map_eq_some_iff]at hl;obtain⟨⟨k,n⟩,hx,rfl⟩:=hl;simp only [Instr.sliceBounds,Option.map_none,Option.map_some,SV.bI hx,Sem.run_bind,Sem.run_pure,Result.andThen_ok,Option.isSome_none,Bool.false_eq_true,if_false];rw [dq h0 hle];simp
    |some x=>
     simp only [bnd,Option.map_eq_some_iff]at hh;obtain⟨⟨k,n⟩,hx,rfl⟩:=hh;have hcap':n≤cap:=hcap.resolve_left (by simp);have hle':li≤n:=hle
     cases lo with
     |none=>
      simp only [bnd,Option.some.injEq]at hl;subst hl
      simp only [Instr.sliceBounds,Option.map_some,Option.map_none,SV.bI hx,Sem.run_bind,Sem.run_pure,Result.andThen_ok];rw [dq (by omega) hcap'];rfl
     |some xl=>
      simp only [bnd,Option.map_eq_some_iff]at hl;obtain⟨⟨k',n'⟩,hxl,rfl⟩:=hl;have h0':0≤n':=h0;have hle'':n'≤n:=hle;simp only [Instr.sliceBounds,Option.map_some,Option.map_none,SV.bI hx,SV.bI hxl,Sem.run_bind,Sem.run_pure,Result.andThen_ok,Option.isSome_none,Bool.false_eq_true,if_false];rw [dq (by omega) hcap'];simp only [Result.andThen_ok];rw [dq h0' (by omega)];rfl
   ·intro hs
    have:=hcap.resolve_left (fun e=>by rw [e]at hs;cases hs);omega
   ·intro e
    subst e;simp only [bnd,Option.some.injEq]at hh;subst hh;simp
  ·cases hb
 ·rename_i mv
  split at hb
  ·rename_i li hv k m' hl hh
   split at hb
   ·rename_i k2 hn hhv
    injection hb with hb;injection hb with h1 hb;injection hb with h2 hb;injection hb with h3 h4
    subst h2;subst h3;subst h4
    simp only [Bool.and_eq_true,decide_eq_true_eq]at h1;obtain⟨⟨⟨h0,hle⟩,hm⟩,hc⟩:=h1;refine⟨?_,by omega,fun _=>by omega,fun e=>(by cases e),fun _=>by omega,fun e=>(by cases e)⟩;simp only [Instr.sliceBounds,Option.map_some,SV.bI hh,SV.bI hhv,Sem.run_bind];rw [dq (by omega) hc];simp only [Result.andThen_ok];rw [dq (by omega) (by omega)];simp only [Result.andThen_ok]
    cases lo with
    |none=>simp only [bnd,Option.some.injEq]at hl;subst hl;rfl
    |some x=>
     simp only [bnd,Option.map_eq_some_iff]at hl;obtain⟨⟨k,n⟩,hx,rfl⟩:=hl;have h0':0≤n:=h0;have hle':n≤hn:=hle;simp only [Option.map_some,SV.bI hx,Option.isSome_some,if_true,Sem.run_bind];rw [dq h0' (by omega)];rfl
   ·cases hb
  ·cases hb
def vl(P:Program)(t:TypeId)(x:SV)(lo hi mx:Option SV):Option (Bool×SV):=
 match ty P t with
 |none=>none
 |some s=>
  match s.und with
  | .string=>match x.str?,mx with
    |some str,none=>match bounds str.length str.length lo hi none with
     |some (r,l,h,_)=>some (r,.str ((str.drop l).take (h-l)))
     |none=>none
    |_,_=>none
  | .slice e=>match ty P e with
    |none=>none
    |some se=>match x with
     | .slc b o len (.lit cap)=>match bounds len cap lo hi mx with
       |some (r,l,h,m)=>some (r,.slc b (o+bif Nat.beq m l then 0 else l*se.size) (h-l) (.lit (m-l)))
       |none=>none
     | .slc b o len (.sub b' d)=>match bounds len len lo hi mx with
       |some (r,l,h,m)=>match mx with
        |none=>some (r&&(Nat.beq l 0||Nat.blt l h),.slc b (o+l*se.size) (h-l) (.sub b' (d+l)))
        |some _=>some (r,.slc b (o+bif Nat.beq m l then 0 else l*se.size) (h-l) (.lit (m-l)))
       |none=>none
     | .v (.slice (some ⟨b,o,none⟩) len cap)=>match bounds len cap lo hi mx with
       |some (r,l,h,m)=>some (r,.v (.slice (some ⟨b,o+bif Nat.beq m l then 0 else l*se.size,none⟩) (h-l) (m-l)))
       |none=>none
     | .v (.slice a len cap)=>match bounds len cap lo hi mx with
       |some (r,l,h,m)=>some (r,.v (sliced a l h m se.size))
       |none=>none
     |_=>none
  | .array n e=>match ty P e,x with
    |some se,.ptr b o=>match bounds n n lo hi mx with
     |some (r,l,h,m)=>some (r,.slc b (o+bif Nat.beq m l then 0 else l*se.size) (h-l) (.lit (m-l)))
     |none=>none
    |some se,.v (.pointer (some a))=>match bounds n n lo hi mx with
     |some (r,l,h,m)=>some (r,.v (.slice (some (bif Nat.beq m l then a else a.add (l*se.size))) (h-l) (m-l)))
     |none=>none
    |_,_=>none
  |_=>none
theorem nC(b o m l s:Nat):(some (if m=l then(⟨b,o,none⟩:Addr)else Addr.add ⟨b,o,none⟩ (l*s)))=some ⟨b,o+(bif Nat.beq m l then 0 else l*s),none⟩:=by
 by_cases h:m=l
 ·subst h;simp [Nat.beq_refl]
 ·have:Nat.beq m l=false:=by
    cases hb:Nat.beq m l with
    |false=>rfl
    |true=>exact absurd (Nat.eq_of_beq_eq_true hb) h
  simp [h,this,db]
theorem ky(l:List UInt8)(a b:Nat):(⟨l.toArray⟩:ByteArray).extract a b=⟨((l.drop a).take (b-a)).toArray⟩:=by
 apply ByteArray.ext;apply Array.toList_inj.1;rw [Lib.extract_data]
theorem zt{P:Program}{t:TypeId}{x z:SV}{lo hi mx:Option SV}{r:Bool}(h:vl P t x lo hi mx=some (r,z))(hr:r=true){ρ:Nat→Loc}{n:Nat}(hx:x.lt ρ n)(w:World):
  (Instr.sliceAt t (x.den ρ) (lo.map (SV.den ρ)) (hi.map (SV.den ρ)) (mx.map (SV.den ρ))).run P w= .ok (z.den ρ) w∧z.lt ρ n:=by
 unfold vl at h
 split at h
 ·cases h
 ·rename_i s hs
  have hu:=aA w hs
  split at h
  ·
   rename_i hd
   split at h
   ·rename_i str hstr
    split at h
    ·rename_i r' l h' m hb
     injection h with h;injection h with h1 h2;subst h2
     obtain⟨h3,h4,_⟩:=dz (P:=P) hb (h1.trans hr) ρ w false;refine⟨?_,trivial⟩;rw [SV.bW hstr];have hsz:(⟨str.toArray⟩:ByteArray).size=str.length:=by show str.toArray.size=_;simp
     simp only [Instr.sliceAt,Sem.run_bind,hu,hd,Result.andThen_ok,Instr.slice,hsz,Option.map_none];simp only [Option.map_none]at h3;simp only [Option.isSome_none,Bool.false_eq_true,if_false,Sem.run_pure,Result.andThen_ok,Sem.run_bind,h3,ky,SV.den]
    ·cases h
   ·cases h
  ·
   rename_i e hd
   split at h
   ·cases h
   ·rename_i se hse
    split at h
    ·rename_i b o len cap
     split at h
     ·rename_i r' l h' m hb
      injection h with h;injection h with h1 h2;subst h2
      obtain⟨h3,h4,h5,h6,h7,h8⟩:=dz (P:=P) hb (h1.trans hr) ρ w true;refine⟨?_,hx.1,trivial,?_⟩
      ·simp only [Instr.sliceAt,Sem.run_bind,hu,hd,Result.andThen_ok,Instr.slice,SV.den,df.den,h3,bK w hse,Sem.run_pure]
       congr 2;simp only [Option.map_some,←apply_ite some,nC,Nat.add_assoc]
      ·have hlen:len≤cap:=hx.2.2
       simp only [df.den]
       cases hi with
       |none=>have:=h8 rfl;cases mx with
        |none=>have:=h6 rfl;omega
        |some _=>simp [bounds]at hb
       |some _=>have:=h5 rfl;omega
     ·cases h
    ·rename_i b o len b' d
     have hlen:len≤(ρ b').cap-d:=hx.2.2
     split at h
     ·rename_i r' l h' m hb
      split at h
      ·injection h with h;injection h with h1 h2;subst h2
       rw [hr,Bool.and_eq_true]at h1;obtain⟨h1,hz⟩:=h1
       have hb':bounds len ((ρ b').cap-d) lo hi none=some (true,l,h',(ρ b').cap-d):=by
        unfold bounds at hb ⊢;simp only at hb ⊢
        split at hb
        ·rename_i li hv hl hh
         injection hb with hb;injection hb with k1 hb;injection hb with k2 hb;injection hb with k3 k4
         rw [h1]at k1;simp only [k2,k3];simp only [Bool.and_eq_true,decide_eq_true_eq,Bool.or_eq_true]at k1
         have:(decide (0≤li)&&decide (li≤hv)&&(hi.isNone||decide (hv≤(((ρ b').cap-d:Nat):Int))))=true:=by
          simp only [Bool.and_eq_true,decide_eq_true_eq,Bool.or_eq_true];exact⟨k1.1,k1.2.imp id (fun _=>by omega)⟩
         rw [this]
        ·cases hb
       obtain⟨h3,h4,h5,h6,h7,h8⟩:=dz (P:=P) hb' rfl ρ w true
       have hle:h'≤len:=by
        obtain⟨_,_,g5,g6,_,g8⟩:=dz (P:=P) hb h1 ρ w true
        cases hi with
        |none=>have:=g8 rfl;omega
        |some _=>have:=g5 rfl;have:=g6 rfl;omega
       refine⟨?_,hx.1,hx.2.1,?_⟩
       ·simp only [Instr.sliceAt,Sem.run_bind,hu,hd,Result.andThen_ok,Instr.slice,SV.den,df.den]
        simp only [Option.map_none]at h3 ⊢;simp only [h3,bK w hse,Result.andThen_ok,Sem.run_pure];congr 2
        ·by_cases hl0:l=0
         ·subst hl0
          split<;>simp [db]
         ·have hlt:l<h':=by
            simp only [Bool.or_eq_true]at hz;rcases hz with hz|hz
            ·exact absurd (Nat.eq_of_beq_eq_true hz) hl0
            ·exact Nat.le_of_ble_eq_true hz
          rw [if_neg (by omega)];simp [db,Nat.add_assoc]
        ·omega
       ·simp only [df.den];omega
      ·rename_i mv
       injection h with h;injection h with h1 h2;subst h2
       have hb':bounds len ((ρ b').cap-d) lo hi (some mv)=some (true,l,h',m):=by
        unfold bounds at hb ⊢;simp only at hb ⊢
        split at hb
        ·split at hb
         ·rename_i hhv
          injection hb with hb;injection hb with k1 hb;injection hb with k2 hb;injection hb with k3 k4
          rw [h1,hr]at k1;simp only [*];simp only [Bool.and_eq_true,decide_eq_true_eq]at k1 ⊢;congr 2;simp only [Bool.and_eq_true,decide_eq_true_eq];exact⟨k1.1,by omega⟩
         ·cases hb
        ·cases hb
       obtain⟨h3,h4,h5,h6,h7,h8⟩:=dz (P:=P) hb' rfl ρ w true;refine⟨?_,hx.1,trivial,?_⟩
       ·simp only [Instr.sliceAt,Sem.run_bind,hu,hd,Result.andThen_ok,Instr.slice,SV.den,df.den,h3,bK w hse,Sem.run_pure]
        congr 2;simp only [Option.map_some,←apply_ite some,nC,Nat.add_assoc]
       ·simp only [df.den]
        cases hi with
        |none=>simp [bounds]at hb
        |some _=>have:=h5 rfl;omega
     ·cases h
    ·rename_i b o len cap
     split at h
     ·rename_i r' l h' m hb
      injection h with h;injection h with h1 h2;subst h2
      obtain⟨h3,_⟩:=dz (P:=P) hb (h1.trans hr) ρ w true;refine⟨?_,trivial⟩;simp only [Instr.sliceAt,Sem.run_bind,hu,hd,Result.andThen_ok,Instr.slice,SV.den,h3,bK w hse,Sem.run_pure];congr 2;rw [←nC b o m l se.size]
      by_cases hml:m=l
      ·rw [if_pos hml,if_pos hml]
      ·rw [if_neg hml,if_neg hml];rfl
     ·cases h
    ·rename_i a len cap _
     split at h
     ·rename_i r' l h' m hb
      injection h with h;injection h with h1 h2;subst h2
      obtain⟨h3,_⟩:=dz (P:=P) hb (h1.trans hr) ρ w true;refine⟨?_,trivial⟩;simp only [Instr.sliceAt,Sem.run_bind,hu,hd,Result.andThen_ok,Instr.slice,SV.den,h3,bK w hse,Sem.run_pure,sliced]
     ·cases h
    ·cases h
  ·
   rename_i k e hd
   split at h
   ·rename_i se b o hse
    split at h
    ·rename_i r' l h' m hb
     injection h with h;injection h with h1 h2;subst h2
     obtain⟨h3,h4,h5,h6,h7,h8⟩:=dz (P:=P) hb (h1.trans hr) ρ w false;refine⟨?_,hx,trivial,?_⟩
     ·simp only [Instr.sliceAt,Sem.run_bind,hu,hd,Result.andThen_ok,SV.den,df.den,Instr.sureAddr,h3,bK w hse,Sem.run_pure]
      congr 2;simp only [nC,Nat.add_assoc]
     ·simp only [df.den]
      cases hi with
      |none=>have:=h8 rfl;cases mx with
       |none=>have:=h6 rfl;omega
       |some _=>simp [bounds]at hb
      |some _=>have:=h5 rfl;omega
    ·cases h
   ·rename_i se a hse
    split at h
    ·rename_i r' l h' m hb
     injection h with h;injection h with h1 h2;subst h2
     obtain⟨h3,_⟩:=dz (P:=P) hb (h1.trans hr) ρ w false;refine⟨?_,trivial⟩;simp only [Instr.sliceAt,Sem.run_bind,hu,hd,Result.andThen_ok,SV.den,Instr.sureAddr,h3,bK w hse,Sem.run_pure];congr 2
     by_cases hml:m=l
     ·subst hml;simp [Nat.beq_refl]
     ·have:Nat.beq m l=false:=by
        cases hb':Nat.beq m l with
        |false=>rfl
        |true=>exact absurd (Nat.eq_of_beq_eq_true hb') hml
      simp [hml,this]
    ·cases h
   ·cases h
  ·cases h
def ef(cs:List SV)(off:Nat)(vc:List SV):List SV:=cs.take off++vc++cs.drop (off+vc.length)
def qq(place:Nat→Option (Nat×Nat)):List SV→List (Nat×SV)→Option (List SV)
 |cs, []=>some cs
 |cs,(i,x)::rest=>
  match place i,x.cells with
  |some (off,size),some vc=>bif Nat.beq vc.length size&&Nat.ble (off+vc.length) cs.length then qq place (ef cs off vc) rest else none
  |_,_=>none
theorem DO(l:List Value):∀(k:Nat) (off:Nat) (cs:Array Value),off+k+l.length≤cs.size→
  ((l.zipIdx k).foldl (fun cs (x:Value×Nat)=>cs.setIfInBounds (off+x.2) x.1) cs).toList=cs.toList.take (off+k)++l++cs.toList.drop (off+k+l.length):=by
 induction l with
 |nil=>intro k off cs h;simp
 |cons x xs ih=>
  intro k off cs h;simp only [List.zipIdx_cons,List.foldl_cons];simp only [List.length_cons]at h;rw [ih (k+1) off _ (by simp;omega)];simp only [Array.toList_setIfInBounds,List.length_cons];have hlt:off+k<cs.toList.length:=by simp;omega
  rw [show off+(k+1)=(off+k)+1 by omega,show(off+k)+1+xs.length=off+k+(xs.length+1)by omega];rw [List.take_add_one,List.take_set_of_le (Nat.le_refl _),List.drop_set_of_lt (by omega)];rw [List.getElem?_set_self hlt];simp
theorem jL{ρ:Nat→Loc}{n:Nat}{place:Nat→Option (Nat×Nat)} :∀(parts:List (Nat×SV)) (cs out:List SV),qq place cs parts=some out→
  Instr.fill place (cs.map (SV.den ρ)).toArray (parts.map fun(i,x)=>(i,x.den ρ))=some (out.map (SV.den ρ)).toArray∧
  ((∀y∈cs,y.lt ρ n)→(∀p∈parts,p.2.lt ρ n)→∀y∈out,y.lt ρ n):=by
 intro parts
 induction parts with
 |nil=>intro cs out h;simp only [qq,Option.some.injEq]at h;subst h;exact⟨rfl,fun h _=>h⟩
 |cons p rest ih=>
  intro cs out h;obtain⟨i,x⟩:=p;simp only [qq]at h
  split at h
  ·rename_i off size vc hp hc
   cases hb:Nat.beq vc.length size&&Nat.ble (off+vc.length) cs.length with
   |false=>rw [hb]at h;cases h
   |true=>
    rw [hb]at h;simp only [Bool.and_eq_true]at hb;have h1:=Nat.eq_of_beq_eq_true hb.1;have h2:=Nat.le_of_ble_eq_true hb.2;simp only [cond_true]at h;obtain⟨k1,k2⟩:=ih _ _ h;have hcs:=SV.ml (ρ:=ρ) hc;have hsz:(x.den ρ).cells.size=vc.length:=by rw [←Array.length_toList,hcs,List.length_map]
    refine⟨?_,fun hy hpp=>k2 (fun y hy'=> ?_) (fun p hp=>hpp p (List.mem_cons_of_mem _ hp))⟩
    ·simp only [List.map_cons,Instr.fill,hp]
     rw [if_neg (by simp [hsz,h1];omega)];rw [←k1];congr 1;apply Array.toList_inj.1;rw [←Array.foldl_toList,Array.toList_zipIdx,hcs,DO _ 0 off _ (by simp;omega)];simp [ef,List.map_take,List.map_drop]
    ·simp only [ef,List.mem_append]at hy'
     rcases hy' with(hy'|hy')|hy'
     ·exact hy y (List.mem_of_mem_take hy')
     ·exact SV.tl hc (hpp _ (List.mem_cons_self)) y hy'
     ·exact hy y (List.mem_of_mem_drop hy')
  ·cases h
def pT(P:Program)(t:TypeId)(parts:List (Nat×SV)):Option SV:=
 match ty P t with
 |none=>none
 |some s=>
  let zero:=s.zero.cells.toList.map .v
  match s.und with
  | .struct fs=>
    bif fs.toList.all (fun f=>(ty P f.type).isSome)then
     (qq (fun i=>match fs.toList[i]? with
       |some f=>(ty P f.type).map fun s=>(f.offset,s.size)
       |none=>none) zero parts).map .agg
    else none
  | .array _ e=>match ty P e with
    |some se=>(qq (fun i=>some (i*se.size,se.size)) zero parts).map .agg
    |none=>none
  |_=>none
theorem zN{P:Program}(w:World):∀(l:List Field),(l.all fun f=>(ty P f.type).isSome)=true→
  (l.mapM (fun(f:Field)=>do pure (f.offset,←sizeOf f.type)):Sem (List (Nat×Nat))).run P w= .ok (l.map fun(f:Field)=>(f.offset,((ty P f.type).map (·.size)).getD 0)) w:=by
 intro l
 induction l with
 |nil=>intro _;rfl
 |cons f fs ih=>
  intro h;simp only [List.all_cons,Bool.and_eq_true]at h;obtain⟨s,hs⟩:=Option.isSome_iff_exists.1 h.1;simp only [List.mapM_cons,Sem.run_bind,bK w hs,Result.andThen_ok,Sem.run_pure,ih h.2,List.map_cons,hs,Option.map_some,Option.getD_some]
theorem AM{P:Program}{t:TypeId}{parts:List (Nat×SV)}{z:SV}(h:pT P t parts=some z)(ρ:Nat→Loc)(w:World):
  (Instr.build t (parts.map fun(i,x)=>(i,x.den ρ)).toArray).run P w= .ok (z.den ρ) w:=by
 unfold pT at h
 split at h
 ·cases h
 ·rename_i s hs
  simp only at h
  have hz:((s.zero.cells.toList.map SV.v).map (SV.den ρ)).toArray=s.zero.cells:=by
   simp [Function.comp_def,SV.den]
  split at h
  ·rename_i fs hd
   cases hall:fs.toList.all fun f=>(ty P f.type).isSome with
   |false=>rw [hall]at h;cases h
   |true=>
    rw [hall]at h;simp only [cond_true,Option.map_eq_some_iff]at h;obtain⟨out,hf,rfl⟩:=h;obtain⟨k1,_⟩:=jL (ρ:=ρ) (n:=0) parts _ out hf;rw [hz]at k1
    have hpl:(fs.mapM (fun(f:Field)=>do pure (f.offset,←sizeOf f.type)):Sem (Array (Nat×Nat))).run P w= .ok (fs.toList.map fun(f:Field)=>(f.offset,((ty P f.type).map (·.size)).getD 0)).toArray w:=by
     rw [Array.mapM_eq_mapM_toList];simp only [Sem.run_map,zN w fs.toList hall,Result.andThen_ok]
    simp only [Instr.build,Sem.run_bind,cQ w hs,aA w hs,Result.andThen_ok,hd,hpl]
    have hfun:(fun(i:Nat)=>((fs.toList.map fun(f:Field)=>(f.offset,((ty P f.type).map (·.size)).getD 0)).toArray)[i]?)=(fun(i:Nat)=>match fs.toList[i]? with
     |some (f:Field)=>(ty P f.type).map fun s=>(f.offset,s.size)
     |none=>none):=by
     funext i
     simp only [List.getElem?_toArray,List.getElem?_map]
     cases hi:fs.toList[i]? with
     |none=>rfl
     |some f=>
      obtain⟨s',hs'⟩:=Option.isSome_iff_exists.1 (List.all_eq_true.1 hall f (List.mem_of_getElem? hi));simp [hs']
    simp only [hfun,k1,Sem.run_pure,SV.den,dP]
  ·rename_i k e hd
   split at h
   ·rename_i se hse
    simp only [Option.map_eq_some_iff]at h;obtain⟨out,hf,rfl⟩:=h;obtain⟨k1,_⟩:=jL (ρ:=ρ) (n:=0) parts _ out hf;rw [hz]at k1;simp only [Instr.build,Sem.run_bind,cQ w hs,aA w hs,Result.andThen_ok,hd,bK w hse,k1,Sem.run_pure,SV.den,dP]
   ·cases h
  ·cases h
theorem D9{P:Program}{t:TypeId}{parts:List (Nat×SV)}{z:SV}(h:pT P t parts=some z){ρ:Nat→Loc}{n:Nat}(hp:∀p∈parts,p.2.lt ρ n):z.lt ρ n:=by
 unfold pT at h
 split at h
 ·cases h
 ·rename_i s hs
  simp only at h;have hz:∀y∈s.zero.cells.toList.map SV.v,y.lt ρ n:=fun y hy=>by obtain⟨x,_,rfl⟩:=List.mem_map.1 hy;trivial
  split at h
  ·rename_i fs hd
   cases hall:fs.toList.all fun f=>(ty P f.type).isSome with
   |false=>rw [hall]at h;cases h
   |true=>
    rw [hall]at h;simp only [cond_true,Option.map_eq_some_iff]at h;obtain⟨out,hf,rfl⟩:=h;exact eh.2 ((jL (ρ:=ρ) (n:=n) parts _ out hf).2 hz hp)
  ·split at h
   ·simp only [Option.map_eq_some_iff]at h
    obtain⟨out,hf,rfl⟩:=h;exact eh.2 ((jL (ρ:=ρ) (n:=n) parts _ out hf).2 hz hp)
   ·cases h
  ·cases h
end
end Go.Sx
namespace Go.Sx
noncomputable section
variable {dfs : List Deferred}
def FO(P:Program)(t:TypeId)(x:SV):Option SV:=
 match ty P t with
 |none=>none
 |some s=>match s.und with
  | .string=>x.str?.map fun l=> .v (.int .i64 l.length)
  | .slice _=>match x with
    | .slc _ _ l _=>some (.v (.int .i64 l))
    | .v (.slice _ l _)=>some (.v (.int .i64 l))
    |_=>none
  | .array n _=>some (.v (.int .i64 n))
  | .pointer e=>match ty P e with
    |some se=>match se.und with
     | .array n _=>some (.v (.int .i64 n))
     |_=>none
    |none=>none
  | .map _ _=>match x with
    | .v (.map none)=>some (.v (.int .i64 0))
    |_=>none
  |_=>none
theorem FN{P:Program}{t u:TypeId}{x z:SV}(h:FO P t x=some z)(ρ:Nat→Loc)(w:World):(Builtin.len_ #[t] u #[x.den ρ]).run P w= .ok (z.den ρ) w:=by
 unfold FO at h
 split at h
 ·cases h
 ·rename_i s hs
  have hu:=aA w hs
  split at h
  ·rename_i hd
   simp only [Option.map_eq_some_iff]at h;obtain⟨l,hl,rfl⟩:=h;rw [SV.bW hl];have hsz:(⟨l.toArray⟩:ByteArray).size=l.length:=by show l.toArray.size=_;simp
   simp only [Builtin.len_,List.getElem?_toArray,List.getElem?_cons_zero,Sem.run_bind,hu,hd,Result.andThen_ok,hsz];rfl
  ·rename_i e hd
   split at h
   ·injection h with h;subst h
    simp only [Builtin.len_,List.getElem?_toArray,List.getElem?_cons_zero,Sem.run_bind,hu,hd,Result.andThen_ok,SV.den];rfl
   ·injection h with h;subst h
    simp only [Builtin.len_,List.getElem?_toArray,List.getElem?_cons_zero,Sem.run_bind,hu,hd,Result.andThen_ok,SV.den];rfl
   ·cases h
  ·rename_i n e hd
   injection h with h;subst h
   simp only [Builtin.len_,List.getElem?_toArray,List.getElem?_cons_zero,Sem.run_bind,hu,hd,Result.andThen_ok];rfl
  ·rename_i e hd
   split at h
   ·rename_i se hse
    split at h
    ·rename_i n e' hd'
     injection h with h;subst h
     simp only [Builtin.len_,List.getElem?_toArray,List.getElem?_cons_zero,Sem.run_bind,hu,hd,Result.andThen_ok,aA w hse,hd'];rfl
    ·cases h
   ·cases h
  ·rename_i k e hd
   split at h
   ·injection h with h;subst h
    simp only [Builtin.len_,List.getElem?_toArray,List.getElem?_cons_zero,Sem.run_bind,hu,hd,Result.andThen_ok,SV.den];rfl
   ·cases h
  ·cases h
theorem lenV_lt{P:Program}{t:TypeId}{x z:SV}(h:FO P t x=some z)(ρ:Nat→Loc)(n:Nat):z.lt ρ n:=by
 unfold FO at h
 split at h
 ·cases h
 ·split at h
  ·simp only [Option.map_eq_some_iff]at h
   obtain⟨l,hl,rfl⟩:=h;trivial
  all_goals first
   |(injection h with h;subst h;trivial)
   |(split at h<;>first|(cases h;done)|(injection h with h;subst h;trivial)|(split at h<;>first|(cases h;done)|(injection h with h;subst h;trivial)))
   |(cases h;done)
def Gx(P:Program)(t:TypeId)(x:SV):Option SV:=
 match ty P t with
 |none=>none
 |some s=>match s.und,x with
  | .slice _,.slc _ _ _ (.lit c)=>some (.v (.int .i64 c))
  | .slice _,.v (.slice _ _ c)=>some (.v (.int .i64 c))
  |_,_=>none
theorem Gw{P:Program}{t u:TypeId}{x z:SV}(h:Gx P t x=some z)(ρ:Nat→Loc)(w:World):(Builtin.cap_ #[t] u #[x.den ρ]).run P w= .ok (z.den ρ) w:=by
 unfold Gx at h
 split at h
 ·cases h
 ·rename_i s hs
  have hu:=aA w hs
  split at h
  ·rename_i hd
   injection h with h;subst h
   simp only [Builtin.cap_,List.getElem?_toArray,List.getElem?_cons_zero,Sem.run_bind,hu,hd,Result.andThen_ok,SV.den];rfl
  ·rename_i hd
   injection h with h;subst h
   simp only [Builtin.cap_,List.getElem?_toArray,List.getElem?_cons_zero,Sem.run_bind,hu,hd,Result.andThen_ok,SV.den];rfl
  ·cases h
theorem capV_lt{P:Program}{t:TypeId}{x z:SV}(h:Gx P t x=some z)(ρ:Nat→Loc)(n:Nat):z.lt ρ n:=by
 unfold Gx at h
 split at h
 ·cases h
 ·split at h<;>first|(cases h;done)|(injection h with h;subst h;trivial)
def foldM(mx:Bool)(k:IntKind):Int→List SV→Option SV
 |a, []=>some (.v (.int k a))
 |a,y::ys=>match y.int? with
  |some (_,b)=>foldM mx k (bif mx then(bif decide (a<b)then b else a)else(bif decide (b<a)then b else a)) ys
  |none=>none
theorem DP{P:Program}{ρ:Nat→Loc}{k:IntKind}(w:World):∀(ys:List SV) (a:Int) (z:SV),foldM false k a ys=some z→((ys.map (SV.den ρ)).foldlM Builtin.min2 (.int k a)).run P w= .ok (z.den ρ) w:=by
 intro ys
 induction ys with
 |nil=>intro a z h;injection h with h;subst h;rfl
 |cons y ys ih=>
  intro a z h;simp only [foldM]at h
  split at h
  ·rename_i k' b hy
   have:=ih _ z h;simp only [List.map_cons,List.foldlM_cons,SV.bI hy,Builtin.min2,Sem.run_bind,Sem.run_pure,Result.andThen_ok]
   by_cases hab:b<a<;>simp [hab]at this ⊢ <;>exact this
  ·cases h
theorem DQ{P:Program}{ρ:Nat→Loc}{k:IntKind}(w:World):∀(ys:List SV) (a:Int) (z:SV),foldM true k a ys=some z→((ys.map (SV.den ρ)).foldlM Builtin.max2 (.int k a)).run P w= .ok (z.den ρ) w:=by
 intro ys
 induction ys with
 |nil=>intro a z h;injection h with h;subst h;rfl
 |cons y ys ih=>
  intro a z h;simp only [foldM]at h
  split at h
  ·rename_i k' b hy
   have:=ih _ z h;simp only [List.map_cons,List.foldlM_cons,SV.bI hy,Builtin.max2,Sem.run_bind,Sem.run_pure,Result.andThen_ok]
   by_cases hab:a<b
   ·simp [hab]at this ⊢;exact this
   ·simp [hab]at this ⊢;exact this
  ·cases h
theorem yH{mx:Bool}{k:IntKind}(ρ:Nat→Loc)(n:Nat):∀(ys:List SV) (a:Int) (z:SV),foldM mx k a ys=some z→z.lt ρ n:=by
 intro ys
 induction ys with
 |nil=>intro a z h;injection h with h;subst h;trivial
 |cons y ys ih=>
  intro a z h;simp only [foldM]at h
  split at h
  ·exact ih _ z h
  ·cases h
def tp(P:Program)(b:Builtin)(ts:List TypeId)(xs:List SV):Option SV:=
 match b,ts,xs with
 | .len, [t], [x]=>FO P t x
 | .cap, [t], [x]=>Gx P t x
 | .min,_,x::ys=>match x.int? with
   |some (k,a)=>foldM false k a ys
   |none=>none
 | .max,_,x::ys=>match x.int? with
   |some (k,a)=>foldM true k a ys
   |none=>none
 |_,_,_=>none
theorem AK{P:Program}{b:Builtin}{ts:List TypeId}{xs:List SV}{z:SV}(h:tp P b ts xs=some z)(ρ:Nat→Loc)(w:World)(u:TypeId)(cs:Array Bool):
  (builtin b ts.toArray u cs (xs.map (SV.den ρ)).toArray).run P w= .ok (.value (z.den ρ)) w:=by
 unfold tp at h
 split at h
 ·have:=FN h ρ w (u:=u)
  simp only [builtin,Sem.run_bind,List.map_cons,List.map_nil,this,Result.andThen_ok,Sem.run_pure]
 ·have:=Gw h ρ w (u:=u)
  simp only [builtin,Sem.run_bind,List.map_cons,List.map_nil,this,Result.andThen_ok,Sem.run_pure]
 ·split at h
  ·rename_i k a hx
   simp only [builtin,Builtin.min_,List.map_cons,SV.bI hx,Sem.run_bind,DP w _ _ _ h,Result.andThen_ok,Sem.run_pure]
  ·cases h
 ·split at h
  ·rename_i k a hx
   simp only [builtin,Builtin.max_,List.map_cons,SV.bI hx,Sem.run_bind,DQ w _ _ _ h,Result.andThen_ok,Sem.run_pure]
  ·cases h
 ·cases h
theorem D8{P:Program}{b:Builtin}{ts:List TypeId}{xs:List SV}{z:SV}(h:tp P b ts xs=some z)(ρ:Nat→Loc)(n:Nat):z.lt ρ n:=by
 unfold tp at h
 split at h
 ·exact lenV_lt h ρ n
 ·exact capV_lt h ρ n
 ·split at h
  ·exact yH ρ n _ _ _ h
  ·cases h
 ·split at h
  ·exact yH ρ n _ _ _ h
  ·cases h
 ·cases h
def gW(x:Option SV):Option (Bool×SV):=
 match x with
 |some v=>some (true,v)
 |none=>none
def jf(tm:T SV):Option Operand→Option (Option SV)
 |none=>some none
 |some x=>match opd tm x with
  |some v=>some (some v)
  |none=>none
def uq(c a b:SV):Option SV:=
 match c with
 | .v (.bool t)=>match a,b with
   | .v (.bool x),.v (.bool y)=>some (.v (.bool (bif t then x else y)))
   |a,b=>some (bif t then a else b)
 |_=>none
theorem CY{c a b z:SV}(h:uq c a b=some z)(ρ:Nat→Loc):∃t,c= .v (.bool t)∧z.den ρ=if t then a.den ρ else b.den ρ:=by
 unfold uq at h
 split at h
 ·rename_i t
  refine⟨t,rfl,?_⟩
  split at h<;>injection h with h<;>subst h<;>cases t<;>rfl
 ·cases h
theorem Fg{c a b z:SV}(h:uq c a b=some z){ρ:Nat→Loc}{n:Nat}(ha:a.lt ρ n)(hb:b.lt ρ n):z.lt ρ n:=by
 unfold uq at h
 split at h
 ·rename_i t
  split at h
  ·injection h with h;subst h;trivial
  ·injection h with h;subst h;cases t
   ·exact hb
   ·exact ha
 ·cases h
def rG(P:Program)(tm:T SV)(c:Call):Option (Bool×SV):=
 match c.callee with
 | .builtin b=>match kJ tm c.args.toList with
   |some xs=>gW (tp P b c.argTypes.toList xs)
   |none=>none
 |_=>none
def Fc(P:Program)(tm:T SV):Op→Option (Bool×SV)
 | .move x=>gW (opd tm x)
 | .assign x=>gW (opd tm x)
 | .pick c a b=>match opd tm c,opd tm a,opd tm b with
   |some c,some a,some b=>gW (uq c a b)
   |some (.v (.bool true)),some a,none=>some (true,a)
   |some (.v (.bool false)),none,some b=>some (true,b)
   |_,_,_=>none
 | .build t parts=>match kJ tm (parts.toList.map (·.2))with
   |some xs=>gW (pT P t ((parts.toList.map (·.1)).zip xs))
   |none=>none
 | .nilCheck x=>match opd tm x with
   |some x=>nilV x
   |none=>none
 | .binOp op t x y _=>match opd tm x,opd tm y with
   |some a,some b=>Eb P op t (isCst y) a b
   |_,_=>none
 | .unOp op _ x=>match opd tm x with
   |some x=>gW (unV op x)
   |none=>none
 | .convert s d x=>match opd tm x with
   |some x=>gW (uS P s d x)
   |none=>none
 | .makeInterface t x=>match opd tm x with
   |some x=>gW (DH P t x)
   |none=>none
 | .makeFunc (.func f) first caps=>bif first.isEmpty then(match kJ tm caps.toList with
    |some xs=>some (true,.fn f xs)
    |none=>none)else none
 | .slice t x lo hi mx=>match opd tm x,jf tm lo,jf tm hi,jf tm mx with
   |some x,some lo,some hi,some mx=>vl P t x lo hi mx
   |_,_,_,_=>none
 | .fieldAddr t x i=>match opd tm x with
   |some x=>gW (gG P t x i)
   |none=>none
 | .field t x i=>match opd tm x with
   |some x=>gW (pQ P t x i)
   |none=>none
 | .indexAddr t x i=>match opd tm x,opd tm i with
   |some x,some i=>gF P t x i
   |_,_=>none
 | .index t x i=>match opd tm x,opd tm i with
   |some x,some i=>pG P t x i
   |_,_=>none
 | .extract x i=>match opd tm x with
   |some x=>gW (jM x i)
   |none=>none
 | .typeAssert x _ t ok=>match opd tm x with
   |some x=>gW (mq P t ok x)
   |none=>none
 | .call c=>rG P tm c
 |_=>none
theorem dI{x:Option SV}{r:Bool}{z:SV}(h:gW x=some (r,z)):x=some z:=by
 unfold gW at h
 split at h
 ·injection h with h;injection h with _ h;subst h;rfl
 ·cases h
theorem iG{ρ:Nat→Loc}{tm:T SV}{sz nx:Nat}{a:Act}(A:dR dfs ρ tm sz nx a){x:Option Operand}{v:Option SV}(h:jf tm x=some v):x.map a.eval=v.map (SV.den ρ):=by
 unfold jf at h
 split at h
 ·injection h with h;subst h;rfl
 ·split at h
  ·rename_i hv
   injection h with h;subst h
   simp [(bg A hv).1]
  ·cases h
theorem oX{P:Program}{tm:T SV}{op:Op}{r:Bool}{z:SV}(h:Fc P tm op=some (r,z))(hr:r=true){ρ:Nat→Loc}{sz nx:Nat}{a:Act}(A:dR dfs ρ tm sz nx a)
  (o:Oper) (ho:o.op=op) (w:World):(execOp a.eval o).run P w= .ok (.value (z.den ρ)) w∧z.lt ρ nx:=by
 subst hr;unfold Fc at h;unfold execOp;rw [ho]
 split at h
 ·have h:=dI h
  obtain⟨h1,h2⟩:=bg A h;exact⟨by simp [h1],h2⟩
 ·have h:=dI h
  obtain⟨h1,h2⟩:=bg A h;exact⟨by simp [h1],h2⟩
 ·split at h
  ·rename_i c x y hc hx hy
   have h:=dI h;obtain⟨c1,_⟩:=bg A hc;obtain⟨x1,x2⟩:=bg A hx;obtain⟨y1,y2⟩:=bg A hy;obtain⟨t,rfl,hz⟩:=CY h ρ;refine⟨?_,Fg h x2 y2⟩;rw [hz];simp only [c1,x1,y1,SV.den,asBool,Sem.run_bind,Sem.run_pure,Result.andThen_ok]
  ·rename_i x hc hx hy
   injection h with h;injection h with _ h;subst h
   obtain⟨c1,_⟩:=bg A hc;obtain⟨x1,x2⟩:=bg A hx;exact⟨by simp only [c1,x1,SV.den,asBool,Sem.run_bind,Sem.run_pure,Result.andThen_ok,if_true],x2⟩
  ·rename_i x hc hx hy
   injection h with h;injection h with _ h;subst h
   obtain⟨c1,_⟩:=bg A hc;obtain⟨x1,x2⟩:=bg A hy;exact⟨by simp only [c1,x1,SV.den,asBool,Sem.run_bind,Sem.run_pure,Result.andThen_ok,Bool.false_eq_true,if_false],x2⟩
  ·cases h
 ·rename_i t parts
  split at h
  ·rename_i xs hxs
   have h:=dI h;obtain⟨h1,h2⟩:=dY A _ _ hxs
   have hp:(parts.map fun(i,x)=>(i,a.eval x))=(((parts.toList.map (·.1)).zip xs).map fun(i,x)=>(i,x.den ρ)).toArray:=by
    apply Array.toList_inj.1;rw [Array.toList_map];show _=((parts.toList.map (·.1)).zip xs).map fun(i,x)=>(i,x.den ρ)
    have:(((parts.toList.map (·.1)).zip xs).map fun(i,x)=>(i,SV.den ρ x))=(parts.toList.map (·.1)).zip (xs.map (SV.den ρ)):=by
     rw [List.zip_map_right];rfl
    rw [this,←h1,List.map_map,List.zip_map'];rfl
   refine⟨?_,D9 h fun p hp=>h2 p.2 (List.of_mem_zip hp).2⟩;simp only [Sem.run_bind];rw [hp,AM h ρ w];simp
  ·cases h
 ·split at h
  ·rename_i x hx
   obtain⟨h1,h2⟩:=bg A hx;dsimp only;rw [h1];unfold nilV at h
   split at h
   ·injection h with h;injection h with _ h;subst h;exact⟨rfl,h2⟩
   ·rename_i o
    injection h with h;injection h with h3 h;subst h
    cases o with
    |none=>cases h3
    |some a=>exact⟨rfl,trivial⟩
   ·injection h with h;injection h with _ h;subst h;exact⟨rfl,h2⟩
   ·injection h with h;injection h with _ h;subst h;exact⟨rfl,h2⟩
   ·cases h
  ·cases h
 ·rename_i op t x y _
  split at h
  ·rename_i u v hu hv
   obtain⟨h1,_⟩:=bg A hu;obtain⟨h2,_⟩:=bg A hv;refine⟨?_,binV_lt h ρ nx⟩;have:=GG h rfl ρ w x y (fun hc=>by cases y<;>first|exact⟨_,rfl⟩|cases hc);rw [←h1,←h2]at this;simp only [Sem.run_bind]at this ⊢;rw [this];simp
  ·cases h
 ·split at h
  ·rename_i x hx
   have h:=dI h;obtain⟨h1,_⟩:=bg A hx;refine⟨?_,unV_lt h ρ nx⟩;simp only [Sem.run_bind,h1,unV_run h ρ w,Result.andThen_ok,Sem.run_pure]
  ·cases h
 ·split at h
  ·rename_i x hx
   have h:=dI h;obtain⟨h1,h2⟩:=bg A hx;refine⟨?_,Gr h h2⟩;simp only [Sem.run_bind,h1,DZ h ρ w,Result.andThen_ok,Sem.run_pure]
  ·cases h
 ·split at h
  ·rename_i x hx
   have h:=dI h;obtain⟨h1,h2⟩:=bg A hx;refine⟨?_,ifcV_lt h h2⟩;simp only [Sem.run_bind,h1,FW h ρ w,Result.andThen_ok,Sem.run_pure]
  ·cases h
 ·rename_i f first caps
  cases hf:first.isEmpty with
  |false=>rw [hf]at h;cases h
  |true=>
   rw [hf]at h;simp only [cond_true]at h
   split at h
   ·rename_i xs hxs
    injection h with h;injection h with _ h;subst h
    obtain⟨h1,h2⟩:=dY A _ _ hxs;have hfe:first= #[]:=Array.isEmpty_iff.1 hf;subst hfe;refine⟨?_,eh.2 h2⟩
    have hc:caps.map a.eval=(xs.map (SV.den ρ)).toArray:=by
     apply Array.toList_inj.1;rw [Array.toList_map,h1]
    simp only [Instr.makeFunc,hc,SV.den,dP,Sem.run_bind,Sem.run_pure,Result.andThen_ok,Array.map_empty]
   ·cases h
 ·split at h
  ·rename_i x lo hi mx hx hlo hhi hmx
   obtain⟨h1,h2⟩:=bg A hx;obtain⟨k1,k2⟩:=zt h rfl h2 w;refine⟨?_,k2⟩;simp only [Sem.run_bind,h1,iG A hlo,iG A hhi,iG A hmx,k1,Result.andThen_ok,Sem.run_pure]
  ·cases h
 ·split at h
  ·rename_i x hx
   have h:=dI h;obtain⟨h1,h2⟩:=bg A hx;refine⟨?_,tV h h2⟩;simp only [Sem.run_bind,h1,sZ h ρ w,Result.andThen_ok,Sem.run_pure]
  ·cases h
 ·split at h
  ·rename_i x hx
   have h:=dI h;obtain⟨h1,h2⟩:=bg A hx;refine⟨?_,DR h h2⟩;simp only [Sem.run_bind,h1,Aq h ρ w,Result.andThen_ok,Sem.run_pure]
  ·cases h
 ·split at h
  ·rename_i x i hx hi
   obtain⟨h1,h2⟩:=bg A hx;obtain⟨h3,_⟩:=bg A hi;refine⟨?_,tU h h2⟩;simp only [Sem.run_bind,h1,h3,sG h rfl ρ w,Result.andThen_ok,Sem.run_pure]
  ·cases h
 ·split at h
  ·rename_i x i hx hi
   obtain⟨h1,h2⟩:=bg A hx;obtain⟨h3,_⟩:=bg A hi;refine⟨?_,DG h h2⟩;simp only [Sem.run_bind,h1,h3,Ah h rfl ρ w,Result.andThen_ok,Sem.run_pure]
  ·cases h
 ·split at h
  ·rename_i x hx
   have h:=dI h;obtain⟨h1,h2⟩:=bg A hx;refine⟨?_,yJ h h2⟩;simp only [Sem.run_bind,h1,wE h ρ w,Result.andThen_ok,Sem.run_pure]
  ·cases h
 ·split at h
  ·rename_i x hx
   have h:=dI h;obtain⟨h1,h2⟩:=bg A hx;refine⟨?_,AO h h2⟩;simp only [Sem.run_bind,h1,y5 h ρ w,Result.andThen_ok,Sem.run_pure]
  ·cases h
 ·rename_i c
  unfold rG at h
  split at h
  ·rename_i b hb
   split at h
   ·rename_i xs hxs
    have h:=dI h;obtain⟨h1,_⟩:=dY A _ _ hxs;refine⟨?_,D8 h ρ nx⟩
    have hc:c.args.map a.eval=(xs.map (SV.den ρ)).toArray:=by
     apply Array.toList_inj.1;rw [Array.toList_map,h1]
    have key:∀cs,(builtin b c.argTypes o.type cs (xs.map (SV.den ρ)).toArray).run P w= .ok (.value (z.den ρ)) w:=fun cs=>AK h ρ w o.type cs
    simp only [resolve,hb,hc,Sem.run_bind,Sem.run_pure,Result.andThen_ok,invoke];exact key _
   ·cases h
  ·cases h
 ·cases h
end
end Go.Sx
