/-
  Parts of the proof: SxC SxD
-/
import Derived.Test.YtphigpccfbfnoaaGreatDoorG01
import Derived.LaidEql
import Derived.Laws.StructEq
import Derived.Laws.Slices
import Derived.Lib.IndexBytes
set_option maxRecDepth 100000
set_option maxHeartbeats 0
namespace Go.Sx
noncomputable section
def cV:List Field→List SV→List SV→Nat→(Nat→Option STy)→Option Bool
 | [],_,_,_,_=>some true
 |f::fs,x::xs,y::ys,i,tys=>
  bif !(Nat.beq f.offset i)||(f.name== "_")then none else
  match tys f.type with
  |none=>none
  |some s=>
   match s.und,x,y with
   | .bool,.v (.bool a),.v (.bool b)=>(cV fs xs ys (i+1) tys).map fun r=>(a==b)&&r
   | .int _,.v (.int k a),.v (.int k' b)=>bif kEq k k' then(cV fs xs ys (i+1) tys).map fun r=>decide (a=b)&&r else none
   | .string,x,y=>match x.str?,y.str? with
     |some l,some m=>(cV fs xs ys (i+1) tys).map fun r=>eW l m&&r
     |_,_=>none
   |_,_,_=>none
 |_::_,_,_,_,_=>none
def fY(P:Program):List Field→List SV→List SV→Nat→Option Bool
 | [],_,_,_=>some true
 |f::fs,xs,ys,i=>
  bif !(Nat.beq f.offset i)||(f.name== "_")then none else
  match ty P f.type with
  |none=>none
  |some s=>match s.und with
   | .struct gs=>bif Nat.ble s.size xs.length&&Nat.ble s.size ys.length then(match cV gs.toList (xs.take s.size) (ys.take s.size) 0 (ty P)with
     |some r0=>(fY P fs (xs.drop s.size) (ys.drop s.size) (i+s.size)).map fun r=>r0&&r
     |none=>none)else none
   |_=>match xs,ys with
    |x::xs',y::ys'=>match cV [f] [x] [y] i (ty P)with
     |some r0=>(fY P fs xs' ys' (i+1)).map fun r=>r0&&r
     |none=>none
    |_,_=>none
def Av(P:Program)(fs:List Field)(xs ys:List SV):Option Bool:=match cV fs xs ys 0 (ty P)with
 |some r=>some r
 |none=>fY P fs xs ys 0
def vR(P:Program):List Field→Bool
 | []=>true
 |f::fs=>(match ty P f.type with
  |some s=>match s.und with
   | .struct _=> !P.stoodInHeld f.type
   |_=>true
  |none=>true)&&vR P fs
def lW(P:Program)(t:TypeId)(fs:List Field):Bool:=(!P.eqGuardType P.depth t&& !P.stoodInHeld t)&&vR P fs
def yv:TypeDesc→Bool| .pointer _=>true|_=>false
def yu:TypeDesc→Bool| .slice _=>true|_=>false
def qw:TypeDesc→Bool| .map _ _=>true|_=>false
def isFn:TypeDesc→Bool| .func _ _ _=>true|_=>false
def kG:TypeDesc→Bool| .interface _=>true|_=>false
def isBl:TypeDesc→Bool| .bool=>true|_=>false
def SV.aggs? :SV→Option (List SV)
 | .agg cs=>some cs
 | .v (.agg cs)=>some (cs.toList.map .v)
 |_=>none
theorem SV.e8{ρ:Nat→Loc}{x:SV}{cs:List SV}(h:x.aggs? =some cs):x.den ρ= .agg (cs.map (SV.den ρ)).toArray:=by
 unfold SV.aggs? at h
 split at h
 ·injection h with h;subst h;simp [SV.den,dP]
 ·injection h with h;subst h;simp [SV.den,Function.comp_def]
 ·cases h
theorem SV.zb{ρ:Nat→Loc}{n:Nat}{x:SV}{cs:List SV}(h:x.aggs? =some cs)(hx:x.lt ρ n):∀y∈cs,y.lt ρ n:=by
 unfold SV.aggs? at h
 split at h
 ·injection h with h;subst h;exact eh.1 hx
 ·injection h with h;subst h;intro y hy;obtain⟨z,_,rfl⟩:=List.mem_map.1 hy;trivial
 ·cases h
def cmpT(P:Program)(t:TypeId):Bool:=match P.info? t with
 |some i=>i.comparable
 |none=>false
theorem D4{P:Program}{t:TypeId}(h:cmpT P t=true):∃i,P.info? t=some i∧i.comparable=true:=by
 unfold cmpT at h
 split at h
 ·rename_i i hi;exact⟨i,hi,h⟩
 ·cases h
def eqI(P:Program)(u u':TypeId)(a b:SV):Option Bool:=bif Nat.beq u u' then(match ty P u with
  |some su=>match su.und,a.int?,b.int? with
   | .int _,some (ka,m),some (kb,n)=>bif cmpT P u&&kEq ka kb then some (decide (m=n))else none
   |_,_,_=>none
  |none=>none)
 else some false
def eqP(P:Program)(d:TypeDesc)(b o b' o':Nat):Option Bool:=match d with
 | .pointer e=>bif (P.info? e).isSome&&Nat.beq b b'&&Nat.beq o o' then some true else none
 |_=>none
def eqB(P:Program)(t:TypeId)(yc:Bool)(x y:SV):Option Bool:=
 match ty P t with
 |none=>none
 |some s=>
  match x,y with
  | .v (.bool a),.v (.bool b)=>bif isBl s.und then some (a==b)else none
  | .ptr _ _,.v (.pointer none)=>bif yv s.und then some false else none
  | .v (.pointer none),.ptr _ _=>bif yv s.und then some false else none
  | .v (.pointer a),.v (.pointer none)=>bif yv s.und then some a.isNone else none
  | .slc _ _ _ _,.v (.slice none _ _)=>bif yu s.und then some false else none
  | .v (.slice a _ _),.v (.slice none _ _)=>bif yu s.und then some a.isNone else none
  | .mp _,.v (.map none)=>bif qw s.und then some false else none
  | .v (.map a),.v (.map none)=>bif qw s.und then some a.isNone else none
  | .fn _ _,.v .nilFunc=>bif isFn s.und then some false else none
  | .v .nilFunc,.v .nilFunc=>bif isFn s.und then some true else none
  | .ifc _ _,.v .nilIface=>bif kG s.und then some false else none
  | .v .nilIface,.v .nilIface=>bif kG s.und&&yc then some true else none
  | .ifc u a,.ifc u' b=>bif kG s.und then eqI P u u' a b else none
  | .ptr b o,.ptr b' o'=>eqP P s.und b o b' o'
  |x,y=>
   match s.und,x.aggs?,y.aggs? with
   | .struct fs,some xs,some ys=>bif lW P t fs.toList then Av P fs.toList xs ys else none
   |_,_,_=>none
theorem jD{P:Program}{t:TypeId}{s:STy}(h:ty P t=some s)(hd:TypeDesc.isAgg s.und=false){cs:Array Value}{i:Nat}{v:Value}(hv:cs[i]? =some v)(w:World):(part t cs i).run P w= .ok v w:=by
 simp only [part,Sem.run_bind,nN w h,Result.andThen_ok,hd,Bool.false_eq_true,if_false,hv,Sem.run_pure]
theorem rR{P:Program}{t:TypeId}{s:STy}(h:ty P t=some s)(hd:TypeDesc.isAgg s.und=true)(cs:Array Value)(i:Nat)(w:World):(part t cs i).run P w= .ok (.agg (cs.extract i (i+s.size))) w:=by
 simp only [part,Sem.run_bind,nN w h,Result.andThen_ok,hd,if_true,bK w h,Sem.run_pure]
theorem lE{P:Program}{ρ:Nat→Loc}(d:Nat)(w:World):∀(fs:List Field) (xs ys px py:List SV) (r:Bool),
  cV fs xs ys px.length (ty P)=some r→px.length=py.length→
  (Op.eqFields (d+1) ((px++xs).map (SV.den ρ)).toArray ((py++ys).map (SV.den ρ)).toArray fs).run P w= .ok r w:=by
 intro fs
 induction fs with
 |nil=>intro xs ys px py r h _;simp only [cV]at h;injection h with h;subst h;rfl
 |cons f fs ih=>
  intro xs ys px py r h hp
  cases xs with
  |nil=>simp [cV]at h
  |cons x xs=>
   cases ys with
   |nil=>simp [cV]at h
   |cons y ys=>
    simp only [cV]at h
    cases hb:(!(Nat.beq f.offset px.length)||(f.name== "_"))with
    |true=>rw [hb]at h;simp at h
    |false=>
     rw [hb]at h;simp only [cond_false]at h
     have hoff:f.offset=px.length:=by
      cases ho:Nat.beq f.offset px.length with
      |true=>exact Nat.eq_of_beq_eq_true ho
      |false=>rw [ho]at hb;simp at hb
     have hname:f.name≠ "_" :=by
      intro e;rw [e]at hb;simp at hb
     split at h
     ·cases h
     ·rename_i s hs
      have hx:(((px++x::xs).map (SV.den ρ)).toArray)[f.offset]? =some (x.den ρ):=by simp [hoff]
      have hy:(((py++y::ys).map (SV.den ρ)).toArray)[f.offset]? =some (y.den ρ):=by simp [hoff,hp]
      have next:∀r',cV fs xs ys (px.length+1) (ty P)=some r'→
        (Op.eqFields (d+1) ((px++x::xs).map (SV.den ρ)).toArray ((py++y::ys).map (SV.den ρ)).toArray fs).run P w= .ok r' w:=fun r' h'=>by
       have:=ih xs ys (px++ [x]) (py++ [y]) r' (by simpa using h') (by simp [hp]);simpa [List.append_assoc]using this
      have fin:∀(e:Bool) (r':Bool),TypeDesc.isAgg s.und=false→(Op.equalIn (d+1) f.type (x.den ρ) (y.den ρ)).run P w= .ok e w→
        cV fs xs ys (px.length+1) (ty P)=some r'→r=(e&&r')→
        (Op.eqFields (d+1) ((px++x::xs).map (SV.den ρ)).toArray ((py++y::ys).map (SV.den ρ)).toArray (f::fs)).run P w= .ok r w:=fun e r' ha he h' hr=>by
       subst hr;simp only [Op.eqFields,ne_eq,hname,not_false_eq_true,if_true,Sem.run_bind,jD hs ha hx,jD hs ha hy,Result.andThen_ok,he]
       cases e
       ·simp
       ·simp only [Bool.not_true,Bool.false_eq_true,if_false,Bool.true_and];exact next r' h'
      have hu:=(bZ hs).und
      split at h
      ·rename_i a b hd
       cases hr:cV fs xs ys (px.length+1) (ty P)with
       |none=>rw [hr]at h;cases h
       |some r'=>
        rw [hr]at h;injection h with h
        exact fin (a==b) r' (by rw [hd];rfl) (run_equalIn_bool' w d f.type a b (by rw [hu,hd])) hr h.symm
      ·rename_i k0 k a k' b hd
       cases hk:kEq k k' with
       |false=>rw [hk]at h;cases h
       |true=>
        rw [hk]at h;have hk:=iX.1 hk;subst hk
        cases hr:cV fs xs ys (px.length+1) (ty P)with
        |none=>rw [hr]at h;cases h
        |some r'=>
         rw [hr]at h;injection h with h
         refine fin (decide (a=b)) r' (by rw [hd];rfl) ?_ hr h.symm;have:=run_equalIn_int w d f.type k k0 a b (by rw [hu,hd]);rw [show(a==b)=decide (a=b)from rfl]at this;exact this
      ·rename_i hd
       split at h
       ·rename_i l m hl hm
        cases hr:cV fs xs ys (px.length+1) (ty P)with
        |none=>rw [hr]at h;cases h
        |some r'=>
         rw [hr]at h;injection h with h
         refine fin (eW l m) r' (by rw [hd];rfl) ?_ hr h.symm;rw [SV.bW hl,SV.bW hm];have:=run_equalIn_string w d f.type ⟨l.toArray⟩ ⟨m.toArray⟩ (by rw [hu,hd]);rw [this,ByteArray.toList_eq,ByteArray.toList_eq,cP]
       ·cases h
      ·cases h
theorem yK{P:Program}{f:Field}{x y:SV}{i:Nat}{r0:Bool}(h:cV [f] [x] [y] i (ty P)=some r0):∃s,ty P f.type=some s∧TypeDesc.isAgg s.und=false∧∀(d:Nat) (ρ:Nat→Loc) (w:World),(Op.equalIn (d+1) f.type (x.den ρ) (y.den ρ)).run P w= .ok r0 w:=by
 simp only [cV]at h
 cases hb:(!(Nat.beq f.offset i)||(f.name== "_"))with
 |true=>rw [hb]at h;simp at h
 |false=>
  rw [hb]at h;simp only [cond_false]at h
  split at h
  ·cases h
  ·rename_i s hs
   have hu:=(bZ hs).und;refine⟨s,hs,?_⟩
   split at h
   ·rename_i a b hd
    injection h with h
    refine⟨by rw [hd];rfl,fun d ρ w=> ?_⟩;have h:=(Bool.and_true _).symm.trans h;rw [←h];exact run_equalIn_bool' w d f.type a b (by rw [hu,hd])
   ·rename_i k0 k a k' b hd
    cases hk:kEq k k' with
    |false=>rw [hk]at h;cases h
    |true=>
     rw [hk]at h;have hk:=iX.1 hk;subst hk;injection h with h
     refine⟨by rw [hd];rfl,fun d ρ w=> ?_⟩;have h:=(Bool.and_true _).symm.trans h;rw [←h];have:=run_equalIn_int w d f.type k k0 a b (by rw [hu,hd]);rw [show(a==b)=decide (a=b)from rfl]at this;exact this
   ·rename_i hd
    split at h
    ·rename_i l m hl hm
     injection h with h
     refine⟨by rw [hd];rfl,fun d ρ w=> ?_⟩;have h:=(Bool.and_true _).symm.trans h;rw [←h,SV.bW hl,SV.bW hm];have:=run_equalIn_string w d f.type ⟨l.toArray⟩ ⟨m.toArray⟩ (by rw [hu,hd]);rw [this,ByteArray.toList_eq,ByteArray.toList_eq,cP]
    ·cases h
   ·cases h
theorem mK{ρ:Nat→Loc}(px xs:List SV)(n:Nat):((px++xs).map (SV.den ρ)).toArray.extract px.length (px.length+n)=((xs.take n).map (SV.den ρ)).toArray:=by
 apply Array.toList_inj.1;simp only [List.map_append,Array.toList_extract,List.extract_eq_take_drop,List.map_take];rw [Nat.add_sub_cancel_left,List.drop_left' (by simp)]
theorem wG{P:Program}{ρ:Nat→Loc}(d:Nat)(w:World):∀(fs:List Field) (xs ys px py:List SV) (r:Bool),
  fY P fs xs ys px.length=some r→px.length=py.length→vR P fs=true→
  (Op.eqFields (d+2) ((px++xs).map (SV.den ρ)).toArray ((py++ys).map (SV.den ρ)).toArray fs).run P w= .ok r w:=by
 intro fs
 induction fs with
 |nil=>intro xs ys px py r h _ _;simp only [fY]at h;injection h with h;subst h;rfl
 |cons f fs ih=>
  intro xs ys px py r h hp hn;simp only [vR,Bool.and_eq_true]at hn;obtain⟨hn1,hn2⟩:=hn;simp only [fY]at h
  cases hb:(!(Nat.beq f.offset px.length)||(f.name== "_"))with
  |true=>rw [hb]at h;simp at h
  |false=>
   rw [hb]at h;simp only [cond_false]at h
   have hoff:f.offset=px.length:=by
    cases ho:Nat.beq f.offset px.length with
    |true=>exact Nat.eq_of_beq_eq_true ho
    |false=>rw [ho]at hb;simp at hb
   have hname:f.name≠ "_" :=by
    intro e;rw [e]at hb;simp at hb
   have fin:∀(X Y:Value) (r0 r':Bool) (n:Nat) (xs0 ys0 xs1 ys1:List SV),xs=xs0++xs1→ys=ys0++ys1→xs0.length=n→ys0.length=n→(part f.type ((px++xs).map (SV.den ρ)).toArray f.offset).run P w= .ok X w→(part f.type ((py++ys).map (SV.den ρ)).toArray f.offset).run P w= .ok Y w→(Op.equalIn (d+2) f.type X Y).run P w= .ok r0 w→
     fY P fs xs1 ys1 (px.length+n)=some r'→r=(r0&&r')→(Op.eqFields (d+2) ((px++xs).map (SV.den ρ)).toArray ((py++ys).map (SV.den ρ)).toArray (f::fs)).run P w= .ok r w:=fun X Y r0 r' n xs0 ys0 xs1 ys1 hx0 hy0 hlx hly hX hY he h' hr=>by
    subst hr;simp only [Op.eqFields,ne_eq,hname,not_false_eq_true,if_true,Sem.run_bind,hX,hY,Result.andThen_ok,he]
    cases r0
    ·simp
    ·simp only [Bool.not_true,Bool.false_eq_true,if_false,Bool.true_and]
     have:=ih xs1 ys1 (px++xs0) (py++ys0) r' (by rw [List.length_append,hlx];exact h') (by rw [List.length_append,List.length_append,hlx,hly,hp]) hn2;rw [hx0,hy0];rw [List.append_assoc,List.append_assoc]at this;exact this
   split at h
   ·cases h
   ·rename_i s hs
    have hu:=(bZ hs).und;rw [hs]at hn1
    split at h
    ·rename_i gs hd
     cases hc:(Nat.ble s.size xs.length&&Nat.ble s.size ys.length)with
     |false=>rw [hc]at h;cases h
     |true=>
      rw [hc]at h;simp only [Bool.and_eq_true]at hc;have l1:=Nat.le_of_ble_eq_true hc.1;have l2:=Nat.le_of_ble_eq_true hc.2;simp only [cond_true]at h
      split at h
      ·rename_i r0 h0
       have hst:P.stoodInHeld f.type=false:=by simpa [hd]using hn1
       have ha:TypeDesc.isAgg s.und=true:=by rw [hd];rfl
       rw [hd]at hu;have hf:P.fieldsOf f.type=gs:=by simp [Program.fieldsOf,hu]
       have he:(Op.equalIn (d+2) f.type (.agg ((xs.take s.size).map (SV.den ρ)).toArray) (.agg ((ys.take s.size).map (SV.den ρ)).toArray)).run P w= .ok r0 w:=by
        have h1:=run_equalIn_struct (P:=P) w (d+1) f.type ((xs.take s.size).map (SV.den ρ)).toArray ((ys.take s.size).map (SV.den ρ)).toArray (by rw [hf];exact hu) hst;rw [hf]at h1;rw [h1];exact lE d w gs.toList (xs.take s.size) (ys.take s.size) [] [] r0 h0 rfl
       cases hr:fY P fs (xs.drop s.size) (ys.drop s.size) (px.length+s.size)with
       |none=>rw [hr]at h;cases h
       |some r'=>
        rw [hr]at h;injection h with h
        refine fin _ _ r0 r' s.size (xs.take s.size) (ys.take s.size) (xs.drop s.size) (ys.drop s.size) (List.take_append_drop _ _).symm (List.take_append_drop _ _).symm (by rw [List.length_take];omega) (by rw [List.length_take];omega) ?_ ?_ he hr h.symm
        ·rw [rR hs ha,hoff,mK]
        ·rw [rR hs ha,hoff,hp,mK]
      ·cases h
    ·cases xs with
     |nil=>cases h
     |cons x xs'=>
     cases ys with
     |nil=>cases h
     |cons y ys'=>
      simp only at h
      split at h
      ·rename_i r0 h0
       obtain⟨s',hs',ha,he⟩:=yK h0;rw [hs]at hs';injection hs' with hs'
       subst hs';have hx:(((px++x::xs').map (SV.den ρ)).toArray)[f.offset]? =some (x.den ρ):=by simp [hoff]
       have hy:(((py++y::ys').map (SV.den ρ)).toArray)[f.offset]? =some (y.den ρ):=by simp [hoff,hp]
       cases hr:fY P fs xs' ys' (px.length+1)with
       |none=>rw [hr]at h;cases h
       |some r'=>
        rw [hr]at h;injection h with h
        exact fin _ _ r0 r' 1 [x] [y] xs' ys' rfl rfl rfl rfl (jD hs ha hx w) (jD hs ha hy w) (he (d+1) ρ w) hr h.symm
      ·cases h
theorem pH{P:Program}{t:TypeId}(w:World){X Y:Value}(h1:∀a b,¬(X= .agg a∧Y= .agg b))(h2:¬(X= .nilIface∧Y= .nilIface))(op:BinOp)(xo yo:Operand):
  (eqGuard op t xo yo X Y).run P w= .ok () w:=by
 unfold eqGuard
 cases op<;>first
  |rfl
  |(cases X<;>first
     |rfl
     |(cases Y<;>first|rfl|exact absurd ⟨rfl,rfl⟩ h2|exact absurd ⟨rfl,rfl⟩ (h1 _ _)))
theorem Ga{P:Program}{t:TypeId}{yc:Bool}{x y:SV}{r:Bool}(h:eqB P t yc x y=some r)(ρ:Nat→Loc)(w:World)(d:Nat):
  (Op.equalIn (d+3) t (x.den ρ) (y.den ρ)).run P w= .ok r w:=by
 unfold eqB at h
 split at h
 ·cases h
 ·rename_i s hs
  have hu:=(bZ hs).und
  split at h
  case h_1=>
   cases hd:s.und<;>rw [hd]at h<;>simp [isBl]at h
   subst h;rw [hd]at hu;exact run_equalIn_bool' w _ t _ _ hu
  case h_15=>
   split at h
   ·rename_i fs xs ys hd hx hy
    cases hp:lW P t fs.toList with
    |false=>rw [hp]at h;cases h
    |true=>
     rw [hp]at h;simp only [cond_true]at h;simp only [lW,Bool.and_eq_true,Bool.not_eq_true']at hp;rw [hd]at hu;have hf:P.fieldsOf t=fs:=by simp [Program.fieldsOf,hu]
     rw [SV.e8 hx,SV.e8 hy];have:=run_equalIn_struct (P:=P) w (d+2) t (xs.map (SV.den ρ)).toArray (ys.map (SV.den ρ)).toArray (by rw [hf];exact hu) hp.1.2;rw [hf]at this;rw [this];unfold Av at h
     split at h
     ·rename_i r1 h1
      injection h with h
      subst h;exact lE (d+1) w fs.toList xs ys [] [] r1 h1 rfl
     ·exact wG d w fs.toList xs ys [] [] r h rfl hp.2
   ·cases h
  case h_14=>
   rename_i b o b' o';unfold eqP at h
   split at h
   ·rename_i e hd
    rw [hd]at hu
    cases hc:(P.info? e).isSome&&Nat.beq b b'&&Nat.beq o o' with
    |false=>rw [hc]at h;cases h
    |true=>
     rw [hc]at h;simp only [cond_true,Option.some.injEq]at h;subst h;simp only [Bool.and_eq_true]at hc;obtain⟨j,hj⟩:=Option.isSome_iff_exists.1 hc.1.1;have h1:=Nat.eq_of_beq_eq_true hc.1.2;have h2:=Nat.eq_of_beq_eq_true hc.2;subst h1;subst h2
     show(Op.equalIn ((d+2)+1) t _ _).run P w=_
     simp [Op.equalIn,run_underlying hu,SV.den,sizeOf,typeInfo,hj,run_sameAddr_same]
   ·cases h
  case h_13=>
   rename_i u a u' b
   cases hd:s.und<;>rw [hd]at h<;>simp only [kG,cond_true,cond_false]at h<;>first|(cases h;done)|skip
   rw [hd]at hu;unfold eqI at h;show(Op.equalIn ((d+2)+1) t _ _).run P w=_
   cases hb:Nat.beq u u' with
   |false=>
    rw [hb]at h;have hne:u≠u':=fun e=>by rw [e,Nat.beq_refl]at hb;cases hb
    simp only [cond_false,Option.some.injEq]at h;subst h;generalize d+2=e;simp [Op.equalIn,run_underlying hu,SV.den,hne]
   |true=>
    rw [hb]at h;have:=Nat.eq_of_beq_eq_true hb;subst this;simp only [cond_true]at h
    split at h
    ·rename_i su hsu
     split at h
     ·rename_i k ka m kb n hdu ha hb'
      cases hc:cmpT P u&&kEq ka kb with
      |false=>rw [hc]at h;cases h
      |true=>
       rw [hc]at h;simp only [cond_true,Option.some.injEq]at h;subst h;simp only [Bool.and_eq_true]at hc;obtain⟨i,hinfo,hcomp⟩:=D4 hc.1;have hk:=iX.1 hc.2;subst hk;have hu2:=(bZ hsu).und;rw [hdu]at hu2;have key:=run_equalIn_int (P:=P) w (d+1) u ka k m n hu2;change (Op.equalIn (d+2) u _ _).run P w=_ at key;rw [show(m==n)=decide (m=n)from rfl]at key;rw [SV.den,SV.den,SV.bI ha,SV.bI hb'];revert key;generalize d+2=e;intro key;simp [Op.equalIn,run_underlying hu,typeInfo,hinfo,hcomp,key]
     ·cases h
    ·cases h
  case h_4=>rename_i a;cases a<;>(cases hd:s.und<;>rw [hd]at h<;>simp [yv]at h;rw [hd]at hu;subst h;show(Op.equalIn ((d+2)+1) t _ _).run P w=_;generalize d+2=e;simp only [Op.equalIn,Sem.run_bind,run_underlying hu,Result.andThen_ok,SV.den,Sem.run_pure];try rfl)
  case h_6=>rename_i a _ _ _ _;cases a<;>(cases hd:s.und<;>rw [hd]at h<;>simp [yu]at h;rw [hd]at hu;subst h;show(Op.equalIn ((d+2)+1) t _ _).run P w=_;generalize d+2=e;simp only [Op.equalIn,Sem.run_bind,run_underlying hu,Result.andThen_ok,SV.den,Sem.run_pure];try rfl)
  case h_8=>rename_i a;cases a<;>(cases hd:s.und<;>rw [hd]at h<;>simp [qw]at h;rw [hd]at hu;subst h;show(Op.equalIn ((d+2)+1) t _ _).run P w=_;generalize d+2=e;simp only [Op.equalIn,Sem.run_bind,run_underlying hu,Result.andThen_ok,SV.den,Sem.run_pure];try rfl)
  all_goals
   (cases hd:s.und<;>rw [hd]at h<;>simp [yv,yu,qw,isFn,kG]at h)
  all_goals
   rw [hd]at hu;show(Op.equalIn ((d+2)+1) t _ _).run P w=_
   generalize d+2=e;simp only [Op.equalIn,Sem.run_bind,run_underlying hu,Result.andThen_ok,SV.den,Sem.run_pure]
  all_goals first
   |(subst h;rfl)
   |(cases yc with
     |true=>simp at h;subst h;rfl
     |false=>simp at h)
theorem BW{P:Program}{t:TypeId}{yc:Bool}{x y:SV}{r:Bool}(h:eqB P t yc x y=some r)(ρ:Nat→Loc)(w:World):
  (Op.equal t (x.den ρ) (y.den ρ)).run P w= .ok r w∧
  ∀(op:BinOp) (xo yo:Operand),(yc=true→∃c,yo= .const c)→(eqGuard op t xo yo (x.den ρ) (y.den ρ)).run P w= .ok () w:=by
 refine⟨Ga h ρ w 9997,?_⟩;unfold eqB at h
 split at h
 ·cases h
 ·rename_i s hs
  have hu:=(bZ hs).und
  split at h
  case h_12=>
   cases hd:s.und<;>rw [hd]at h<;>simp [kG]at h
   intro op xo yo hc;obtain⟨c,rfl⟩:=hc (by cases yc with|true=>rfl|false=>cases h)
   cases op<;>simp [eqGuard,SV.den]
  case h_15=>
   split at h
   ·rename_i fs xs ys hd hx hy
    cases hp:lW P t fs.toList with
    |false=>rw [hp]at h;cases h
    |true=>
     simp only [lW,Bool.and_eq_true,Bool.not_eq_true']at hp;rw [SV.e8 hx,SV.e8 hy];exact fun op xo yo _=>run_eqGuard_agg w op t xo yo _ _ hp.1.1
   ·cases h
  all_goals exact fun op xo yo _=>pH w (by simp [SV.den]) (by simp [SV.den]) op xo yo
def eqN(P:Program)(t:TypeId)(yc:Bool)(x y:SV):Option Bool:=
 match ty P t with
 |none=>none
 |some s=>
  match s.und with
  | .struct fs=>match x.aggs?,y.aggs? with
    |some xs,some ys=>Av P fs.toList xs ys
    |_,_=>none
  |_=>eqB P t yc x y
def Bo(P:Program)(t:TypeId):Bool:=match ty P t with
 |none=>true
 |some s=>match s.und with
  | .struct fs=>lW P t fs.toList
  |_=>true
theorem BV{P:Program}{t:TypeId}{yc:Bool}{x y:SV}{e:Bool}(h:eqN P t yc x y=some e)(hs:Bo P t=true):eqB P t yc x y=some e:=by
 unfold eqN at h;unfold Bo at hs
 split at h
 ·cases h
 ·rename_i s hty
  rw [hty]at hs;simp only at hs
  split at h
  ·rename_i fs hd
   rw [hd]at hs;simp only at hs
   split at h
   ·rename_i xs ys hx hy
    unfold eqB;rw [hty];have hx':=hx;have hy':=hy;unfold SV.aggs? at hx hy
    split at hx
    ·split at hy
     ·simp only [hd,SV.aggs?]at hx' hy' ⊢
      injection hx' with hx';injection hy' with hy';subst hx';subst hy'
      rw [hs];exact h
     ·simp only [hd,SV.aggs?]at hx' hy' ⊢
      injection hx' with hx';injection hy' with hy';subst hx';subst hy'
      rw [hs];exact h
     ·cases hy
    ·split at hy
     ·simp only [hd,SV.aggs?]at hx' hy' ⊢
      injection hx' with hx';injection hy' with hy';subst hx';subst hy'
      rw [hs];exact h
     ·simp only [hd,SV.aggs?]at hx' hy' ⊢
      injection hx' with hx';injection hy' with hy';subst hx';subst hy'
      rw [hs];exact h
     ·cases hy
    ·cases hx
   ·cases h
  ·exact h
def isCst:Operand→Bool
 | .const _=>true
 |_=>false
def Eb(P:Program)(op:BinOp)(t:TypeId)(yc:Bool)(x y:SV):Option (Bool×SV):=
 match x.int?,y.int? with
 |some (k,a),some (k',b)=>sF op k k' a b
 |_,_=>match x.str?,y.str? with
  |some l,some m=>rf op l m
  |_,_=>match op with
   | .eql=>match eqN P t yc x y with
     |some e=>some (Bo P t,.v (.bool e))
     |none=>none
   | .neq=>match eqN P t yc x y with
     |some e=>some (Bo P t,.v (.bool (!e)))
     |none=>none
   |_=>none
theorem binV_lt{P:Program}{op:BinOp}{t:TypeId}{yc:Bool}{x y z:SV}{r:Bool}(h:Eb P op t yc x y=some (r,z))(ρ:Nat→Loc)(n:Nat):z.lt ρ n:=by
 unfold Eb at h
 split at h
 ·exact DF h ρ n
 ·split at h
  ·exact Cy h ρ n
  ·split at h
   ·split at h
    ·injection h with h;injection h with _ h;subst h;trivial
    ·cases h
   ·split at h
    ·injection h with h;injection h with _ h;subst h;trivial
    ·cases h
   ·cases h
theorem binOp_eql{P:Program}{t:TypeId}{X Y:Value}{w:World}{e:Bool}(h:(Op.equal t X Y).run P w= .ok e w)(h1:∀k a k' b,¬(X= .int k a∧Y= .int k' b))(h2:∀a b,¬(X= .string a∧Y= .string b))
  (h3:∀k a k' b,¬(X= .float k a∧Y= .float k' b)) (h4:∀k a b k' c d,¬(X= .complex k a b∧Y= .complex k' c d)):(binOp .eql t X Y).run P w= .ok (.bool e) w:=by
 have:binOp .eql t X Y=(do pure (.bool (←Op.equal t X Y)):Sem Value):=by
  unfold binOp
  cases X<;>first
   |rfl
   |(cases Y<;>first|rfl|exact absurd ⟨rfl,rfl⟩ (h1 _ _ _ _)|exact absurd ⟨rfl,rfl⟩ (h2 _ _)|exact absurd ⟨rfl,rfl⟩ (h3 _ _ _ _)|exact absurd ⟨rfl,rfl⟩ (h4 _ _ _ _ _ _))
 rw [this];simp only [Sem.run_bind,h,Result.andThen_ok,Sem.run_pure]
theorem binOp_neq{P:Program}{t:TypeId}{X Y:Value}{w:World}{e:Bool}(h:(Op.equal t X Y).run P w= .ok e w)(h1:∀k a k' b,¬(X= .int k a∧Y= .int k' b))(h2:∀a b,¬(X= .string a∧Y= .string b))
  (h3:∀k a k' b,¬(X= .float k a∧Y= .float k' b)) (h4:∀k a b k' c d,¬(X= .complex k a b∧Y= .complex k' c d)):(binOp .neq t X Y).run P w= .ok (.bool (!e)) w:=by
 have:binOp .neq t X Y=(do pure (.bool (!(←Op.equal t X Y))):Sem Value):=by
  unfold binOp
  cases X<;>first
   |rfl
   |(cases Y<;>first|rfl|exact absurd ⟨rfl,rfl⟩ (h1 _ _ _ _)|exact absurd ⟨rfl,rfl⟩ (h2 _ _)|exact absurd ⟨rfl,rfl⟩ (h3 _ _ _ _)|exact absurd ⟨rfl,rfl⟩ (h4 _ _ _ _ _ _))
 rw [this];simp only [Sem.run_bind,h,Result.andThen_ok,Sem.run_pure]
theorem uP{P:Program}{t:TypeId}{yc:Bool}{x y:SV}{e:Bool}(h:eqB P t yc x y=some e)(ρ:Nat→Loc):
  (∀k a k' b,¬(x.den ρ= .int k a∧y.den ρ= .int k' b))∧(∀a b,¬(x.den ρ= .string a∧y.den ρ= .string b))∧
  (∀k a k' b,¬(x.den ρ= .float k a∧y.den ρ= .float k' b))∧(∀k a b k' c d,¬(x.den ρ= .complex k a b∧y.den ρ= .complex k' c d)):=by
 unfold eqB at h
 split at h
 ·cases h
 ·split at h
  case h_15=>
   split at h
   ·rename_i fs xs ys hd hx hy
    rw [SV.e8 hx,SV.e8 hy];simp
   ·cases h
  all_goals simp [SV.den]
theorem GG{P:Program}{op:BinOp}{t:TypeId}{yc:Bool}{x y z:SV}{r:Bool}(h:Eb P op t yc x y=some (r,z))(hr:r=true)(ρ:Nat→Loc)(w:World)(xo yo:Operand)(hc:yc=true→∃c,yo= .const c):
  (do eqGuard op t xo yo (x.den ρ) (y.den ρ);binOp op t (x.den ρ) (y.den ρ):Sem Value).run P w= .ok (z.den ρ) w:=by
 unfold Eb at h
 split at h
 ·rename_i k a k' b h1 h2
  rw [SV.bI h1,SV.bI h2];simp only [Sem.run_bind,pH w (X:= .int k a) (Y:= .int k' b) (by simp) (by simp),Result.andThen_ok];exact Ag h hr t ρ w
 ·split at h
  ·rename_i l m h1 h2
   rw [SV.bW h1,SV.bW h2];simp only [Sem.run_bind,pH w (X:= .string ⟨l.toArray⟩) (Y:= .string ⟨m.toArray⟩) (by simp) (by simp),Result.andThen_ok];exact zm h hr t ρ w
  ·split at h
   ·split at h
    ·rename_i e he
     injection h with h;injection h with hside h;subst h
     have he:=BV he (hside.trans hr);obtain⟨h1,h2⟩:=BW he ρ w;obtain⟨k1,k2,k3,k4⟩:=uP he ρ;simp only [Sem.run_bind,h2 .eql xo yo hc,Result.andThen_ok];exact binOp_eql h1 k1 k2 k3 k4
    ·cases h
   ·split at h
    ·rename_i e he
     injection h with h;injection h with hside h;subst h
     have he:=BV he (hside.trans hr);obtain⟨h1,h2⟩:=BW he ρ w;obtain⟨k1,k2,k3,k4⟩:=uP he ρ;simp only [Sem.run_bind,h2 .neq xo yo hc,Result.andThen_ok];exact binOp_neq h1 k1 k2 k3 k4
    ·cases h
   ·cases h
def unV(op:UnOp)(x:SV):Option SV:=
 match op,x with
 | .not,.v (.bool b)=>some (.v (.bool (!b)))
 | .neg,.v (.int k n)=>some (.v (.int k (k.wrap (0-n))))
 | .xor,.v (.int k n)=>some (.v (.int k (bitsOf .xor k (if k.signed then-1 else k.max) n)))
 |_,_=>none
theorem unV_run{P:Program}{op:UnOp}{x z:SV}(h:unV op x=some z)(ρ:Nat→Loc)(w:World):(Op.unary op (x.den ρ)).run P w= .ok (z.den ρ) w:=by
 unfold unV at h
 split at h<;>first|(cases h;done)|(injection h with h;subst h)
 ·rfl
 ·rfl
 ·rfl
theorem unV_lt{op:UnOp}{x z:SV}(h:unV op x=some z)(ρ:Nat→Loc)(n:Nat):z.lt ρ n:=by
 unfold unV at h
 split at h<;>first|(cases h;done)|(injection h with h;subst h;trivial)
def uS(P:Program)(src dst:TypeId)(x:SV):Option SV:=
 match ty P src,ty P dst with
 |some s,some d=>
  match d.und,x.int? with
  | .int k,some (_,n)=>some (.v (.int k (k.wrap n)))
  | .string,none=>match s.und,x.str? with
    | .string,some _=>some x
    |_,_=>none
  |_,_=>none
 |_,_=>none
theorem DZ{P:Program}{src dst:TypeId}{x z:SV}(h:uS P src dst x=some z)(ρ:Nat→Loc)(w:World):(convert src dst (x.den ρ)).run P w= .ok (z.den ρ) w:=by
 unfold uS at h
 split at h
 ·rename_i s d hs hd
  split at h
  ·rename_i k n0 n hk hx
   injection h with h;subst h
   rw [SV.bI hx];simp only [convert,Sem.run_bind,aA w hs,aA w hd,Result.andThen_ok,hk];rfl
  ·rename_i hk hx
   split at h
   ·rename_i l hsu hl
    injection h with h;subst h
    rw [SV.bW hl];simp only [convert,Sem.run_bind,aA w hs,aA w hd,Result.andThen_ok,hk,hsu];rfl
   ·cases h
  ·cases h
 ·cases h
theorem Gr{P:Program}{src dst:TypeId}{x z:SV}(h:uS P src dst x=some z){ρ:Nat→Loc}{n:Nat}(hx:x.lt ρ n):z.lt ρ n:=by
 unfold uS at h
 split at h
 ·split at h
  ·injection h with h;subst h;trivial
  ·split at h
   ·injection h with h;subst h;exact hx
   ·cases h
  ·cases h
 ·cases h
def nilV(x:SV):Option (Bool×SV):=
 match x with
 | .ptr b o=>some (true,.ptr b o)
 | .v (.pointer o)=>some (o.isSome,.v (.pointer o))
 | .fn f cs=>some (true,.fn f cs)
 | .ifc t y=>some (true,.ifc t y)
 |_=>none
def DH(P:Program)(t:TypeId)(x:SV):Option SV:=
 match ty P t with
 |some s=>bif kG s.und then none else some (.ifc t x)
 |none=>none
theorem FW{P:Program}{t:TypeId}{x z:SV}(h:DH P t x=some z)(ρ:Nat→Loc)(w:World):(Instr.makeInterface t (x.den ρ)).run P w= .ok (z.den ρ) w:=by
 unfold DH at h
 split at h
 ·rename_i s hs
  cases hi:kG s.und with
  |true=>rw [hi]at h;cases h
  |false=>
   rw [hi]at h;injection h with h;subst h
   simp only [Instr.makeInterface,Sem.run_bind,aA w hs,Result.andThen_ok]
   cases hd:s.und<;>rw [hd]at hi<;>first|(cases hi;done)|rfl
 ·cases h
theorem ifcV_lt{P:Program}{t:TypeId}{x z:SV}(h:DH P t x=some z){ρ:Nat→Loc}{n:Nat}(hx:x.lt ρ n):z.lt ρ n:=by
 unfold DH at h
 split at h
 ·rename_i s hs
  cases hi:kG s.und with
  |true=>rw [hi]at h;cases h
  |false=>rw [hi]at h;injection h with h;subst h;exact hx
 ·cases h
def mq(P:Program)(t:TypeId)(ok:Bool)(x:SV):Option SV:=
 match ty P t with
 |some s=>bif kG s.und then none else match x with
  | .ifc u y=>bif Nat.beq u t then some (bif ok then .tup [y,.v (.bool true)]else y)else none
  |_=>none
 |none=>none
theorem y5{P:Program}{xt t:TypeId}{ok:Bool}{x z:SV}(h:mq P t ok x=some z)(ρ:Nat→Loc)(w:World):(Instr.typeAssert (x.den ρ) xt t ok).run P w= .ok (z.den ρ) w:=by
 unfold mq at h
 split at h
 ·rename_i s hs
  cases hi:kG s.und with
  |true=>rw [hi]at h;cases h
  |false=>
   rw [hi]at h;simp only [cond_false]at h
   split at h
   ·rename_i u y
    cases hu:Nat.beq u t with
    |false=>rw [hu]at h;cases h
    |true=>
     rw [hu]at h;have hu:=Nat.eq_of_beq_eq_true hu;subst hu;simp only [cond_true,Option.some.injEq]at h;subst h;simp only [Instr.typeAssert,Sem.run_bind,aA w hs,Result.andThen_ok]
     cases hd:s.und<;>rw [hd]at hi<;>first|(cases hi;done)|(cases ok<;>simp [SV.den,SV.iO])
   ·cases h
 ·cases h
theorem AO{P:Program}{t:TypeId}{ok:Bool}{x z:SV}(h:mq P t ok x=some z){ρ:Nat→Loc}{n:Nat}(hx:x.lt ρ n):z.lt ρ n:=by
 unfold mq at h
 split at h
 ·rename_i s hs
  cases hi:kG s.und with
  |true=>rw [hi]at h;cases h
  |false=>
   rw [hi]at h;simp only [cond_false]at h
   split at h
   ·rename_i u y
    cases hu:Nat.beq u t with
    |false=>rw [hu]at h;cases h
    |true=>
     rw [hu]at h;simp only [cond_true,Option.some.injEq]at h;subst h
     cases ok with
     |true=>exact eh.2 (fun v hv=>by
       rcases List.mem_cons.1 hv with rfl|hv
       ·exact hx
       ·rcases List.mem_singleton.1 hv with rfl;trivial)
     |false=>exact hx
   ·cases h
 ·cases h
theorem db(b o n:Nat):(⟨b,o,none⟩:Addr).add n=⟨b,o+n,none⟩:=by
 unfold Addr.add;split
 ·subst_vars;rfl
 ·rfl
def structFields(P:Program)(t:TypeId):Option (List Field):=
 match ty P t with
 |some s=>match s.und with
  | .struct fs=>some fs.toList
  |_=>none
 |none=>none
theorem jt{P:Program}{t:TypeId}{fs:List Field}(h:structFields P t=some fs):P.underlying t=some (.struct fs.toArray):=by
 unfold structFields at h
 split at h
 ·rename_i s hs
  split at h
  ·rename_i fs' hd
   injection h with h;subst h
   rw [(bZ hs).und,hd]
  ·cases h
 ·cases h
def gG(P:Program)(t:TypeId)(x:SV)(i:Nat):Option SV:=
 match structFields P t with
 |none=>none
 |some fs=>match fs[i]? with
  |none=>none
  |some f=>match ty P f.type with
   |none=>none
   |some s=>bif Nat.beq s.size 0 then none else
    match x with
    | .ptr b o=>some (.ptr b (o+f.offset))
    | .v (.pointer (some ⟨b,o,none⟩))=>some (.v (.pointer (some ⟨b,o+f.offset,none⟩)))
    |_=>none
theorem sZ{P:Program}{t:TypeId}{x z:SV}{i:Nat}(h:gG P t x i=some z)(ρ:Nat→Loc)(w:World):(Instr.fieldAt t (x.den ρ) i).run P w= .ok (z.den ρ) w:=by
 unfold gG at h
 split at h
 ·cases h
 ·rename_i fs hfs
  split at h
  ·cases h
  ·rename_i f hf
   split at h
   ·cases h
   ·rename_i s hs
    cases h0:Nat.beq s.size 0 with
    |true=>rw [h0]at h;cases h
    |false=>
     rw [h0]at h;have hne:s.size≠0:=fun e=>by rw [e]at h0;cases h0
     have hu:=run_underlying (jt hfs) w
     have hplace:∀a,(fieldPlace a f).run P w= .ok (a.add f.offset) w:=fun a=>by
      simp only [fieldPlace,Sem.run_bind,bK w hs,Result.andThen_ok,hne,if_false,Sem.run_pure]
     have hf':fs.toArray[i]? =some f:=by simpa using hf
     simp only [cond_false]at h
     split at h
     ·injection h with h;subst h
      simp only [Instr.fieldAt,Sem.run_bind,hu,Result.andThen_ok,hf',SV.den,Instr.sureAddr,Sem.run_pure,hplace,db,Nat.add_assoc]
     ·injection h with h;subst h
      simp only [Instr.fieldAt,Sem.run_bind,hu,Result.andThen_ok,hf',SV.den,Instr.sureAddr,Sem.run_pure,hplace,db]
     ·cases h
theorem tV{P:Program}{t:TypeId}{x z:SV}{i:Nat}(h:gG P t x i=some z){ρ:Nat→Loc}{n:Nat}(hx:x.lt ρ n):z.lt ρ n:=by
 unfold gG at h
 split at h
 ·cases h
 ·split at h
  ·cases h
  ·split at h
   ·cases h
   ·rename_i s hs
    cases h0:Nat.beq s.size 0 with
    |true=>rw [h0]at h;cases h
    |false=>
     rw [h0]at h;simp only [cond_false]at h
     split at h
     ·injection h with h;subst h;exact hx
     ·injection h with h;subst h;trivial
     ·cases h
def uu(P:Program)(t:TypeId)(cs:List SV)(o:Nat):Option SV:=
 match ty P t with
 |none=>none
 |some s=>bif TypeDesc.isAgg s.und then some (.agg ((cs.drop o).take s.size))else cs[o]?
theorem ur{P:Program}{t:TypeId}{cs:List SV}{o:Nat}{z:SV}(h:uu P t cs o=some z)(ρ:Nat→Loc)(w:World):(part t (cs.map (SV.den ρ)).toArray o).run P w= .ok (z.den ρ) w:=by
 unfold uu at h
 split at h
 ·cases h
 ·rename_i s hs
  cases ha:TypeDesc.isAgg s.und with
  |true=>
   rw [ha]at h;injection h with h;subst h
   rw [rR hs ha];simp only [SV.den,dP,List.map_take,List.map_drop];congr 3;simp [List.extract_eq_take_drop]
  |false=>
   rw [ha]at h;exact jD hs ha (by simp [show cs[o]? =some z from h]) w
theorem xS{P:Program}{t:TypeId}{cs:List SV}{o:Nat}{z:SV}(h:uu P t cs o=some z){ρ:Nat→Loc}{n:Nat}(hx:∀y∈cs,y.lt ρ n):z.lt ρ n:=by
 unfold uu at h
 split at h
 ·cases h
 ·rename_i s hs
  cases ha:TypeDesc.isAgg s.und with
  |true=>
   rw [ha]at h;injection h with h;subst h
   exact eh.2 fun y hy=>hx y (List.mem_of_mem_drop (List.mem_of_mem_take hy))
  |false=>rw [ha]at h;exact hx z (List.mem_of_getElem? h)
def pQ(P:Program)(t:TypeId)(x:SV)(i:Nat):Option SV:=
 match structFields P t,x.aggs? with
 |some fs,some cs=>match fs[i]? with
  |none=>none
  |some f=>uu P f.type cs f.offset
 |_,_=>none
theorem Aq{P:Program}{t:TypeId}{x z:SV}{i:Nat}(h:pQ P t x i=some z)(ρ:Nat→Loc)(w:World):(Instr.field t (x.den ρ) i).run P w= .ok (z.den ρ) w:=by
 unfold pQ at h
 split at h
 ·rename_i fs cs hfs hcs
  split at h
  ·cases h
  ·rename_i f hf
   have hf':fs.toArray[i]? =some f:=by simpa using hf
   rw [SV.e8 hcs];simp only [Instr.field,Sem.run_bind,run_underlying (jt hfs) w,Result.andThen_ok,hf',asAgg,Sem.run_pure];exact ur h ρ w
 ·cases h
theorem DR{P:Program}{t:TypeId}{x z:SV}{i:Nat}(h:pQ P t x i=some z){ρ:Nat→Loc}{n:Nat}(hx:x.lt ρ n):z.lt ρ n:=by
 unfold pQ at h
 split at h
 ·rename_i fs cs hfs hcs
  split at h
  ·cases h
  ·exact xS h (SV.zb hcs hx)
 ·cases h
def fC(n:Int)(l:Nat):Bool:=decide (0≤n)&&decide (n<l)
theorem fK{n:Int}{l:Nat} :fC n l=true↔0≤n∧n<l:=by simp [fC]
def gF(P:Program)(t:TypeId)(x i:SV):Option (Bool×SV):=
 match ty P t,i.int? with
 |some s,some (_,n)=>
  match s.und,x with
  | .array len e,.ptr b o=>match ty P e with
    |some se=>some (fC n len,.ptr b (o+n.toNat*se.size))
    |none=>none
  | .array len e,.v (.pointer (some ⟨b,o,none⟩))=>match ty P e with
    |some se=>some (fC n len,.v (.pointer (some ⟨b,o+n.toNat*se.size,none⟩)))
    |none=>none
  | .slice e,.slc b o l _=>match ty P e with
    |some se=>some (fC n l,.ptr b (o+n.toNat*se.size))
    |none=>none
  | .slice e,.v (.slice (some ⟨b,o,none⟩) l _)=>match ty P e with
    |some se=>some (fC n l,.v (.pointer (some ⟨b,o+n.toNat*se.size,none⟩)))
    |none=>none
  |_,_=>none
 |_,_=>none
theorem sG{P:Program}{t:TypeId}{x i z:SV}{r:Bool}(h:gF P t x i=some (r,z))(hr:r=true)(ρ:Nat→Loc)(w:World):(Instr.indexAt t (x.den ρ) (i.den ρ)).run P w= .ok (z.den ρ) w:=by
 subst hr;unfold gF at h
 split at h
 ·rename_i s k n hs hi
  rw [SV.bI hi];have hu:=aA w hs
  split at h
  all_goals first
   |(cases h;done)
   |(rename_i hd
     split at h
     ·rename_i se hse
      injection h with h;injection h with h1 h2;subst h2
      have hr:=fK.1 h1;simp only [Instr.indexAt,asIntOf,Sem.run_bind,hu,hd,Result.andThen_ok,SV.den,Instr.sureAddr,Sem.run_pure,hr,and_self,if_true,bK w hse,db,Nat.add_assoc]
     ·cases h)
 ·cases h
theorem tU{P:Program}{t:TypeId}{x i z:SV}{r:Bool}(h:gF P t x i=some (r,z)){ρ:Nat→Loc}{n:Nat}(hx:x.lt ρ n):z.lt ρ n:=by
 unfold gF at h
 split at h
 ·split at h
  all_goals first
   |(cases h;done)
   |(split at h
     ·injection h with h;injection h with h1 h2;subst h2
      first
       |trivial
       |exact hx
       |exact hx.1
     ·cases h)
 ·cases h
def pG(P:Program)(t:TypeId)(x i:SV):Option (Bool×SV):=
 match ty P t,i.int? with
 |some s,some (_,n)=>
  match s.und with
  | .array len e=>match x.aggs?,ty P e with
    |some cs,some se=>match uu P e cs (n.toNat*se.size)with
     |some z=>some (fC n len,z)
     |none=>none
    |_,_=>none
  | .string=>match x.str? with
    |some l=>some (fC n l.length,.v (.int .u8 (l.getD n.toNat 0).toNat))
    |none=>none
  |_=>none
 |_,_=>none
theorem Ah{P:Program}{t:TypeId}{x i z:SV}{r:Bool}(h:pG P t x i=some (r,z))(hr:r=true)(ρ:Nat→Loc)(w:World):(Instr.index t (x.den ρ) (i.den ρ)).run P w= .ok (z.den ρ) w:=by
 subst hr;unfold pG at h
 split at h
 ·rename_i s k n hs hi
  rw [SV.bI hi];have hu:=aA w hs
  split at h
  ·rename_i len e hd
   split at h
   ·rename_i cs se hcs hse
    split at h
    ·rename_i z' hz
     injection h with h;injection h with h1 h2;subst h2
     have hr:=fK.1 h1;rw [SV.e8 hcs];simp only [Instr.index,asIntOf,Sem.run_bind,hu,hd,Result.andThen_ok,Sem.run_pure,hr,and_self,if_true,bK w hse];exact ur hz ρ w
    ·cases h
   ·cases h
  ·rename_i hd
   split at h
   ·rename_i l hl
    injection h with h;injection h with h1 h2;subst h2
    have hr:=fK.1 h1;rw [SV.bW hl]
    have hb:(⟨l.toArray⟩:ByteArray)[n.toNat]? =some (l.getD n.toNat 0):=by
     have hlt:n.toNat<l.length:=by omega
     have:(⟨l.toArray⟩:ByteArray)[n.toNat]? =l[n.toNat]? :=by
      rw [getElem?_def]
      split
      ·rename_i hh
       rw [List.getElem?_eq_getElem (by omega)];rfl
      ·rename_i hh
       exact absurd (show n.toNat<(⟨l.toArray⟩:ByteArray).size by show n.toNat<l.toArray.size;simpa using hlt) hh
     rw [this,List.getElem?_eq_getElem hlt,List.getD_eq_getElem?_getD,List.getElem?_eq_getElem hlt];rfl
    simp only [Instr.index,asIntOf,Sem.run_bind,hu,hd,Result.andThen_ok,Sem.run_pure,hr.1,if_true,hb,SV.den]
   ·cases h
  ·cases h
 ·cases h
theorem DG{P:Program}{t:TypeId}{x i z:SV}{r:Bool}(h:pG P t x i=some (r,z)){ρ:Nat→Loc}{n:Nat}(hx:x.lt ρ n):z.lt ρ n:=by
 unfold pG at h
 split at h
 ·split at h
  ·split at h
   ·rename_i cs se hcs hse
    split at h
    ·rename_i z' hz
     injection h with h;injection h with h1 h2;subst h2
     exact xS hz (SV.zb hcs hx)
    ·cases h
   ·cases h
  ·split at h
   ·injection h with h;injection h with h1 h2;subst h2;trivial
   ·cases h
  ·cases h
 ·cases h
def jM(x:SV)(i:Nat):Option SV:=
 match x with
 | .tup vs=>vs[i]?
 | .v (.tuple vs)=>(vs.toList[i]?).map .v
 |_=>none
theorem wE{P:Program}{x z:SV}{i:Nat}(h:jM x i=some z)(ρ:Nat→Loc)(w:World):(Instr.extract (x.den ρ) i).run P w= .ok (z.den ρ) w:=by
 unfold jM at h
 split at h
 ·rename_i vs
  simp only [Instr.extract,SV.den,dP,List.getElem?_toArray,List.getElem?_map,h,Option.map_some,Sem.run_pure]
 ·rename_i vs
  cases hv:vs.toList[i]? with
  |none=>rw [hv]at h;cases h
  |some v=>
   rw [hv]at h;injection h with h;subst h
   have:vs[i]? =some v:=by simpa using hv
   simp only [Instr.extract,SV.den,this,Sem.run_pure]
 ·cases h
theorem yJ{x z:SV}{i:Nat}(h:jM x i=some z){ρ:Nat→Loc}{n:Nat}(hx:x.lt ρ n):z.lt ρ n:=by
 unfold jM at h
 split at h
 ·exact eh.1 hx z (List.mem_of_getElem? h)
 ·rename_i vs
  cases hv:vs.toList[i]? with
  |none=>rw [hv]at h;cases h
  |some v=>rw [hv]at h;injection h with h;subst h;trivial
 ·cases h
end
end Go.Sx
