/-
  Parts of the proof: SxM SxR
-/
import Derived.Test.YtphigpccfbfnoaaGreatDoorG10
import Derived.LoopN
import Derived.Scope
set_option maxRecDepth 100000
set_option maxHeartbeats 0
namespace Go.Sx
noncomputable section
variable {dfs : List Deferred}
def cEq:df→df→Bool
 | .lit a,.lit b=>decide (a=b)
 | .sub a d,.sub b e=>decide (a=b)&&decide (d=e)
 |_,_=>false
mutual
def iM:SV→SV→Bool
 | .v (.int k a),.v (.int k' b)=>kEq k k'&&decide (a=b)
 | .v (.bool a),.v (.bool b)=>decide (a=b)
 | .v (.string a),.v (.string b)=>decide (a.data.toList=b.data.toList)
 | .v (.pointer a),.v (.pointer b)=>decide (a=b)
 | .v (.slice a l c),.v (.slice b m d)=>decide (a=b)&&decide (l=m)&&decide (c=d)
 | .v (.map a),.v (.map b)=>decide (a=b)
 | .v .nilFunc,.v .nilFunc=>true
 | .v .nilIface,.v .nilIface=>true
 | .str l,.str m=>decide (l=m)
 | .ptr b o,.ptr b' o'=>decide (b=b')&&decide (o=o')
 | .slc b o l c,.slc b' o' l' c'=>decide (b=b')&&decide (o=o')&&decide (l=l')&&cEq c c'
 | .mp b,.mp b'=>decide (b=b')
 | .agg xs,.agg ys=>pZ xs ys
 | .tup xs,.tup ys=>pZ xs ys
 | .ifc t x,.ifc u y=>decide (t=u)&&iM x y
 | .fn f xs,.fn g ys=>decide (f=g)&&pZ xs ys
 |_,_=>false
def pZ:List SV→List SV→Bool
 | [], []=>true
 |x::xs,y::ys=>iM x y&&pZ xs ys
 |_,_=>false
end
theorem cEq_eq{a b:df}(h:cEq a b=true):a=b:=by
 cases a<;>cases b<;>simp [cEq]at h
 ·rw [h]
 ·rw [h.1,h.2]
mutual
theorem vh:∀(x y:SV),iM x y=true→x=y
 | .v x,.v y,h=>by
   cases x<;>cases y<;>simp [iM,iX]at h<;>first
    |rfl
    |(rw [h];done)
    |(rw [h.1,h.2];done)
    |(obtain⟨⟨h1,h2⟩,h3⟩:=h;rw [h1,h2,h3];done)
    |(congr 2;exact ByteArray.ext (Array.toList_inj.1 h))
    |(congr 2;exact ByteArray.ext h)
 | .str _,.str _,h=>by simp only [iM,decide_eq_true_eq]at h;rw [h]
 | .ptr _ _,.ptr _ _,h=>by simp only [iM,Bool.and_eq_true,decide_eq_true_eq]at h;rw [h.1,h.2]
 | .slc _ _ _ _,.slc _ _ _ _,h=>by
   simp only [iM,Bool.and_eq_true,decide_eq_true_eq]at h;obtain⟨⟨⟨h1,h2⟩,h3⟩,h4⟩:=h;rw [h1,h2,h3,cEq_eq h4]
 | .mp _,.mp _,h=>by simp only [iM,decide_eq_true_eq]at h;rw [h]
 | .agg xs,.agg ys,h=>by simp only [iM]at h;rw [nz xs ys h]
 | .tup xs,.tup ys,h=>by simp only [iM]at h;rw [nz xs ys h]
 | .ifc _ x,.ifc _ y,h=>by simp only [iM,Bool.and_eq_true,decide_eq_true_eq]at h;rw [h.1,vh x y h.2]
 | .fn _ xs,.fn _ ys,h=>by simp only [iM,Bool.and_eq_true,decide_eq_true_eq]at h;rw [h.1,nz xs ys h.2]
 | .v _,.str _,h| .v _,.ptr _ _,h| .v _,.slc _ _ _ _,h| .v _,.mp _,h| .v _,.agg _,h| .v _,.tup _,h| .v _,.ifc _ _,h| .v _,.fn _ _,h=>by simp [iM]at h
 | .str _,.v _,h| .str _,.ptr _ _,h| .str _,.slc _ _ _ _,h| .str _,.mp _,h| .str _,.agg _,h| .str _,.tup _,h| .str _,.ifc _ _,h| .str _,.fn _ _,h=>by simp [iM]at h
 | .ptr _ _,.v _,h| .ptr _ _,.str _,h| .ptr _ _,.slc _ _ _ _,h| .ptr _ _,.mp _,h| .ptr _ _,.agg _,h| .ptr _ _,.tup _,h| .ptr _ _,.ifc _ _,h| .ptr _ _,.fn _ _,h=>by simp [iM]at h
 | .slc _ _ _ _,.v _,h| .slc _ _ _ _,.str _,h| .slc _ _ _ _,.ptr _ _,h| .slc _ _ _ _,.mp _,h| .slc _ _ _ _,.agg _,h| .slc _ _ _ _,.tup _,h| .slc _ _ _ _,.ifc _ _,h| .slc _ _ _ _,.fn _ _,h=>by simp [iM]at h
 | .mp _,.v _,h| .mp _,.str _,h| .mp _,.ptr _ _,h| .mp _,.slc _ _ _ _,h| .mp _,.agg _,h| .mp _,.tup _,h| .mp _,.ifc _ _,h| .mp _,.fn _ _,h=>by simp [iM]at h
 | .agg _,.v _,h| .agg _,.str _,h| .agg _,.ptr _ _,h| .agg _,.slc _ _ _ _,h| .agg _,.mp _,h| .agg _,.tup _,h| .agg _,.ifc _ _,h| .agg _,.fn _ _,h=>by simp [iM]at h
 | .tup _,.v _,h| .tup _,.str _,h| .tup _,.ptr _ _,h| .tup _,.slc _ _ _ _,h| .tup _,.mp _,h| .tup _,.agg _,h| .tup _,.ifc _ _,h| .tup _,.fn _ _,h=>by simp [iM]at h
 | .ifc _ _,.v _,h| .ifc _ _,.str _,h| .ifc _ _,.ptr _ _,h| .ifc _ _,.slc _ _ _ _,h| .ifc _ _,.mp _,h| .ifc _ _,.agg _,h| .ifc _ _,.tup _,h| .ifc _ _,.fn _ _,h=>by simp [iM]at h
 | .fn _ _,.v _,h| .fn _ _,.str _,h| .fn _ _,.ptr _ _,h| .fn _ _,.slc _ _ _ _,h| .fn _ _,.mp _,h| .fn _ _,.agg _,h| .fn _ _,.tup _,h| .fn _ _,.ifc _ _,h=>by simp [iM]at h
theorem nz:∀(l m:List SV),pZ l m=true→l=m
 | [], [],_=>rfl
 |x::xs,y::ys,h=>by simp only [pZ,Bool.and_eq_true]at h;rw [vh x y h.1,nz xs ys h.2]
 | [],_::_,h=>by simp [pZ]at h
 |_::_, [],h=>by simp [pZ]at h
end
def eF(n:Nat)(k:Nat→Bool):Bool:=Nat.rec (motive:=fun _=>Bool) (k 0) (fun m _=>k (Nat.succ m)) n
theorem cF(n:Nat)(k:Nat→Bool):eF n k=k n:=by cases n<;>rfl
def shutC(c:df)(k:df→Bool):Bool:=match c with
 | .lit c=>eF c fun c=>k (.lit c)
 | .sub b d=>eF b fun b=>eF d fun d=>k (.sub b d)
def ue(x:SV)(k:SV→Bool):Bool:=match x with
 | .ptr b o=>eF b fun b=>eF o fun o=>k (.ptr b o)
 | .slc b o l c=>eF b fun b=>eF o fun o=>eF l fun l=>shutC c fun c=>k (.slc b o l c)
 | .mp b=>eF b fun b=>k (.mp b)
 |x=>k x
theorem xm(x:SV)(k:SV→Bool):ue x k=k x:=by
 cases x with
 |ptr b o=>simp only [ue,cF]
 |slc b o l c=>cases c<;>simp only [ue,shutC,cF]
 |mp b=>simp only [ue,cF]
 |_=>rfl
def uf(h:HS)(k:HS→Bool):Bool:=match h with
 |⟨H,nx,M⟩=>eF nx fun nx=>k ⟨H,nx,M⟩
theorem kP(h:HS)(k:HS→Bool):uf h k=k h:=by
 cases h;simp only [uf,cF]
def fi(sz:Nat)(dst:Option Tmp)(v:SV)(F:T SV→Bool)(tm:T SV):Bool:=
 match dst with
 |none=>F tm
 |some d=>bif Nat.blt d sz then ue v (fun v=>F (tm.set d v))else false
theorem ee{sz:Nat}{dst:Option Tmp}{v:SV}{F:T SV→Bool}{tm:T SV}(h:fi sz dst v F tm){ρ:Nat→Loc}{nx:Nat}{a:Act}(A:dR dfs ρ tm sz nx a)(hv:v.lt ρ nx):
  ∃tm',F tm'∧dR dfs ρ tm' sz nx (a.put dst (v.den ρ)):=by
 unfold fi at h
 split at h
 ·exact⟨tm,h,A⟩
 ·rename_i d
  cases hb:Nat.blt d sz with
  |false=>rw [hb]at h;exact absurd h Bool.false_ne_true
  |true=>rw [hb]at h;rw [cond_true,xm]at h;exact⟨_,h,A.put hv (Nat.le_of_ble_eq_true hb)⟩
def iQ:SV:= .v (.tuple #[])
def oH(dfs:List Deferred)(ρ:Nat→Loc)(h:HS)(sz:Nat)(K:T SV→HS→Bool)(a':Act)(w':World):Prop:=
 ∃tm' h' ρ',K tm' h'∧dR dfs ρ' tm' sz h'.nx a'∧ba ρ' h' w'∧Ext ρ ρ' h.nx∧h.nx≤h'.nx∧h.M.le h'.M
theorem oH.trans{ρ ρ':Nat→Loc}{h h':HS}{sz:Nat}{K:T SV→HS→Bool}{a:Act}{w:World}(g:oH dfs ρ' h' sz K a w)(hx:Ext ρ ρ' h.nx)(hn:h.nx≤h'.nx)(hm:h.M.le h'.M):oH dfs ρ h sz K a w:=by
 obtain⟨tm2,h2,ρ2,k,A,H,x,n,m⟩:=g;exact⟨tm2,h2,ρ2,k,A,H,hx.trans x hn,Nat.le_trans hn n,Mem.le_trans hm m⟩
def oG(dfs:List Deferred)(ρ:Nat→Loc)(h:HS)(sz:Nat)(E:SV→T SV→HS→Bool)(c:List PanicEntry)(a':Act)(w':World):Prop:=
 ∃x tm' h' ρ',c=pnc (x.den ρ')∧x.lt ρ' h'.nx∧E x tm' h'∧dR dfs ρ' tm' sz h'.nx a'∧ba ρ' h' w'∧Ext ρ ρ' h.nx∧h.nx≤h'.nx∧h.M.le h'.M
theorem oG.trans{ρ ρ':Nat→Loc}{h h':HS}{sz:Nat}{E:SV→T SV→HS→Bool}{c:List PanicEntry}{a:Act}{w:World}(g:oG dfs ρ' h' sz E c a w)(hx:Ext ρ ρ' h.nx)(hn:h.nx≤h'.nx)(hm:h.M.le h'.M):oG dfs ρ h sz E c a w:=by
 obtain⟨x,tm2,h2,ρ2,e,l,k,A,H,x',n,m⟩:=g;exact⟨x,tm2,h2,ρ2,e,l,k,A,H,hx.trans x' hn,Nat.le_trans hn n,Mem.le_trans hm m⟩
structure dQ where
 i:Nat
 o:Oper
 v:SV
def behind(cl:List Nat)(i j:Nat):Bool:=(cl.getD j 0).testBit i
def kl(ops:Array Oper)(L:List dQ)(o:Oper):Bool:=
 match o.dst with
 |none=>true
 |some d=>L.all fun p=> !(p.o.looksAt ops).contains d
def GQ(P:Program)(cl:List Nat)(p:dQ)(ε:Operand→Value)(u:Value):qG:=⟨behind cl p.i,fun w=>(execOp ε p.o).run P w= .ok (.value u) w⟩
structure Fits(P:Program)(cl:List Nat)(ρ:Nat→Loc)(n:Nat)(a:Act)(p:dQ)(D:qG)(ε:Operand→Value)(u:Value):Prop where
 eq:D=GQ P cl p ε u
 same:execOp a.eval p.o=execOp ε p.o
 val:u=p.v.den ρ
 lt:p.v.lt ρ n
 sel:∀cs b,p.o.op≠ .select cs b
theorem eS{ops:Array Oper}{L:List dQ}{o:Oper}(h:kl ops L o=true){p:dQ}(hp:p∈L)(hs:∀cs b,p.o.op≠ .select cs b)(a:Act)(v:Value):execOp (a.put o.dst v).eval p.o=execOp a.eval p.o:=by
 refine execOp_put (ops:=ops) p.o hs a o.dst v fun d hd=> ?_
 unfold kl at h;rw [hd]at h;have:=List.all_eq_true.1 h p hp;simpa using this
theorem kW{P:Program}{tm:T SV}{h:HS}{op:Op}{v:SV}(hr:eb P tm h op=some v):∀cs b,op≠ .select cs b:=by
 intro cs b e;subst e;simp [eb]at hr
end
end Go.Sx
namespace Go.Sx
noncomputable section
variable {dfs : List Deferred}
def qj(f:SV→Option (Bool×SV))(x:Option SV):Option (Bool×SV):=match x with
 |some x=>f x
 |none=>none
def Bz(f:SV→SV→Option (Bool×SV))(x y:Option SV):Option (Bool×SV):=match x with
 |some x=>match y with
  |some y=>f x y
  |none=>none
 |none=>none
def pfPick(c a b:Option SV):Option (Bool×SV):=match c,a,b with
 |some c,some a,some b=>gW (uq c a b)
 |some (.v (.bool true)),some a,none=>some (true,a)
 |some (.v (.bool false)),none,some b=>some (true,b)
 |_,_,_=>none
def pfBuild(P:Program)(tm:T SV)(t:TypeId)(parts:List (Nat×Operand)):Option (Bool×SV):=match kJ tm (parts.map (·.2))with
 |some xs=>gW (pT P t ((parts.map (·.1)).zip xs))
 |none=>none
def pfFunc(tm:T SV)(fn:Fn)(first captured:Array Operand):Option (Bool×SV):=match fn with
 | .func f=>bif first.isEmpty then(match kJ tm captured.toList with
   |some xs=>some (true,.fn f xs)
   |none=>none)else none
 |_=>none
def pfSlice(P:Program)(tm:T SV)(t:TypeId)(x:Operand)(lo hi mx:Option Operand):Option (Bool×SV):=match opd tm x,jf tm lo,jf tm hi,jf tm mx with
 |some x,some lo,some hi,some mx=>vl P t x lo hi mx
 |_,_,_,_=>none
def pfUn(op:UnOp)(x:SV):Option (Bool×SV):=gW (unV op x)
def pfConv(P:Program)(s d:TypeId)(x:SV):Option (Bool×SV):=gW (uS P s d x)
def pfIfc(P:Program)(t:TypeId)(x:SV):Option (Bool×SV):=gW (DH P t x)
def xP(P:Program)(t:TypeId)(i:Nat)(x:SV):Option (Bool×SV):=gW (gG P t x i)
def pfField(P:Program)(t:TypeId)(i:Nat)(x:SV):Option (Bool×SV):=gW (pQ P t x i)
def CZ(i:Nat)(x:SV):Option (Bool×SV):=gW (jM x i)
def Fh(P:Program)(t:TypeId)(ok:Bool)(x:SV):Option (Bool×SV):=gW (mq P t ok x)
def Fe(P:Program)(tm:T SV)(op:Op):Option (Bool×SV):=match op with
 | .move x=>gW (opd tm x)
 | .assign x=>gW (opd tm x)
 | .pick c a b=>pfPick (opd tm c) (opd tm a) (opd tm b)
 | .build t parts=>pfBuild P tm t parts.toList
 | .nilCheck x=>qj nilV (opd tm x)
 | .binOp op t x y _=>Bz (Eb P op t (isCst y)) (opd tm x) (opd tm y)
 | .unOp op _ x=>qj (pfUn op) (opd tm x)
 | .convert s d x=>qj (pfConv P s d) (opd tm x)
 | .makeInterface t x=>qj (pfIfc P t) (opd tm x)
 | .makeFunc fn first caps=>pfFunc tm fn first caps
 | .slice t x lo hi mx=>pfSlice P tm t x lo hi mx
 | .fieldAddr t x i=>qj (xP P t i) (opd tm x)
 | .field t x i=>qj (pfField P t i) (opd tm x)
 | .indexAddr t x i=>Bz (gF P t) (opd tm x) (opd tm i)
 | .index t x i=>Bz (pG P t) (opd tm x) (opd tm i)
 | .extract x i=>qj (CZ i) (opd tm x)
 | .typeAssert x _ t ok=>qj (Fh P t ok) (opd tm x)
 | .call c=>rG P tm c
 |_=>none
theorem rM(f:SV→SV→Option (Bool×SV))(x y:Option SV):Bz f x y=(match x,y with|some x,some y=>f x y|_,_=>none):=by cases x<;>cases y<;>rfl
theorem xN(P:Program)(tm:T SV)(op:Op):Fe P tm op=Fc P tm op:=by
 cases op with
 |binOp op t x y u=>exact rM _ _ _
 |indexAddr t x i=>exact rM _ _ _
 |index t x i=>exact rM _ _ _
 |makeFunc fn first caps=>cases fn<;>rfl
 |_=>rfl
def rfLoad(P:Program)(h:HS)(t:TypeId)(x:Option SV):Option SV:=match x with
 |some x=>iW P h t x
 |none=>none
def EP(P:Program)(h:HS)(t:TypeId)(ok:Bool)(x k:Option SV):Option SV:=match x with
 |some x=>match k with
  |some k=>nY P h t x k ok
  |none=>none
 |none=>none
def rfConv(P:Program)(h:HS)(s d:TypeId)(x:Option SV):Option SV:=match x with
 |some x=>cvV P h s d x
 |none=>none
def rfEntry(h:HS)(x:Option SV):Option SV:=match x with
 |some x=>lG h x
 |none=>none
def readF(P:Program)(tm:T SV)(h:HS)(op:Op):Option SV:=match op with
 | .load t x=>rfLoad P h t (opd tm x)
 | .lookup t x k ok=>EP P h t ok (opd tm x) (opd tm k)
 | .convert s d x=>rfConv P h s d (opd tm x)
 | .entry x=>rfEntry h (opd tm x)
 | .call c=>eb P tm h (.call c)
 |_=>none
theorem CH(P:Program)(h:HS)(t:TypeId)(ok:Bool)(x k:Option SV):EP P h t ok x k=(match x,k with|some x,some k=>nY P h t x k ok|_,_=>none):=by cases x<;>cases k<;>rfl
theorem EY(P:Program)(tm:T SV)(h:HS)(op:Op):readF P tm h op=eb P tm h op:=by
 cases op with
 |lookup t x k ok=>exact CH _ _ _ _ _ _
 |_=>rfl
def rdK(r:Option (List Value))(F:List Value→Bool):Bool:=match r with
 |some vs=>F vs
 |none=>false
def oneK(vs:List Value)(F:SV→Bool):Bool:=match vs with
 | [v]=>F (.v v)
 |_=>false
def rU(r:Option SV)(F:SV→Bool):Bool:=match r with
 |some v=>F v
 |none=>false
def FK(P:Program)(h:HS)(t:TypeId)(x:SV)(F:SV→Bool):Bool:=match x with
 | .v (.pointer (some ⟨g,o,none⟩))=>bif h.M.X.op then(match ty P t with
    |some s=>rdK (h.M.A.rd g o s.size) fun vs=>bif TypeDesc.isAgg s.und then F (.v (.agg vs.toArray))else oneK vs F
    |none=>false)else rU (iW P h t x) F
 |x=>rU (iW P h t x) F
theorem FJ(P:Program)(h:HS)(t:TypeId)(x:SV)(F:SV→Bool):FK P h t x F=rU (iW P h t x) F:=by
 unfold FK
 split
 ·rename_i g o
  cases hop:h.M.X.op with
  |false=>rfl
  |true=>
   simp only [cond_true];unfold iW
   cases ht:ty P t with
   |none=>rfl
   |some s=>
    simp only [hop,cond_true];unfold FL rdK
    cases h.M.A.rd g o s.size with
    |none=>rfl
    |some vs=>
     simp only
     cases TypeDesc.isAgg s.und with
     |true=>rfl
     |false=>
      simp only [cond_false]
      match vs with
      | []=>rfl
      | [v]=>rfl
      |_::_::_=>rfl
 ·rfl
def lkK(r:Option (Option Value))(F:Option Value→Bool):Bool:=match r with
 |some r=>F r
 |none=>false
def enK(r:Option Value)(F:SV→Bool):Bool:=match r with
 |some v=>F (.v v)
 |none=>false
def lukC(P:Program)(h:HS)(t:TypeId)(ok:Bool)(x k:SV)(F:SV→Bool):Bool:=match x with
 | .v (.map (some g))=>bif h.M.X.op then(match ty P t with
    |none=>false
    |some s=>match s.und with
     | .map kt et=>match ty P kt,ty P et with
       |some sk,some se=>match Ae sk.und k with
        |some kv=>lkK (h.M.A.look g kv) fun r=>F (uH ok se.zero r)
        |none=>false
       |_,_=>false
     |_=>false)else false
 |x=>rU (nY P h t x k ok) F
theorem lukC_eq(P:Program)(h:HS)(t:TypeId)(ok:Bool)(x k:SV)(F:SV→Bool):lukC P h t ok x k F=rU (nY P h t x k ok) F:=by
 unfold lukC
 split
 ·rename_i g
  cases hop:h.M.X.op with
  |false=>simp only [nY,hop,cond_false];rfl
  |true=>
   simp only [cond_true,nY,hop];unfold BF
   cases ty P t with
   |none=>rfl
   |some s=>
    simp only
    cases s.und with
    |map kt et=>
     simp only
     cases ty P kt with
     |none=>rfl
     |some sk=>
      cases ty P et with
      |none=>rfl
      |some se=>
       simp only
       cases Ae sk.und k with
       |none=>rfl
       |some kv=>
        simp only
        cases h.M.A.look g kv with
        |none=>rfl
        |some r=>rfl
    |_=>rfl
 ·rfl
def entC(h:HS)(x:SV)(F:SV→Bool):Bool:=match x with
 | .v (.pointer (some ⟨i,0,none⟩))=>bif h.M.X.op then enK (h.M.A.ent i) F else false
 |x=>rU (lG h x) F
theorem entC_eq(h:HS)(x:SV)(F:SV→Bool):entC h x F=rU (lG h x) F:=by
 unfold entC
 split
 ·rename_i i
  cases hop:h.M.X.op with
  |false=>simp only [lG,hop,cond_false];rfl
  |true=>
   simp only [cond_true,lG,hop]
   cases h.M.A.ent i with
   |none=>rfl
   |some r=>rfl
 ·rfl
def ctK(r:Option Nat)(F:Nat→Bool):Bool:=match r with
 |some n=>F n
 |none=>false
def lenC(P:Program)(tm:T SV)(h:HS)(c:Call)(F:SV→Bool):Bool:=match c.callee with
 | .builtin .len=>(match c.argTypes.toList,kJ tm c.args.toList with
   | [t],some [.v (.map (some g))]=>bif h.M.X.op then(match ty P t with
     |some s=>bif qw s.und then ctK (h.M.A.cnt g) fun n=>F (.v (.int .i64 n))else false
     |none=>false)else false
   |_,_=>rU (eb P tm h (.call c)) F)
 |_=>rU (eb P tm h (.call c)) F
theorem lenC_eq(P:Program)(tm:T SV)(h:HS)(c:Call)(F:SV→Bool):lenC P tm h c F=rU (eb P tm h (.call c)) F:=by
 unfold lenC
 split
 ·rename_i hc
  split
  ·rename_i t g ht hx
   simp only [eb,hc,ht,hx]
   cases hop:h.M.X.op with
   |false=>rfl
   |true=>
    simp only [cond_true]
    cases ty P t with
    |none=>rfl
    |some s=>
     simp only
     cases qw s.und with
     |false=>rfl
     |true=>
      simp only [cond_true]
      cases h.M.A.cnt g with
      |none=>rfl
      |some n=>rfl
  ·rfl
 ·rfl
def rD(P:Program)(tm:T SV)(h:HS)(op:Op)(F:SV→Bool):Bool:=match op with
 | .call c=>lenC P tm h c F
 | .load t x=>(match opd tm x with
    |some x=>FK P h t x F
    |none=>false)
 | .lookup t x k ok=>(match opd tm x with
    |some x=>(match opd tm k with
     |some k=>lukC P h t ok x k F
     |none=>false)
    |none=>false)
 | .entry x=>(match opd tm x with
    |some x=>entC h x F
    |none=>false)
 |op=>rU (readF P tm h op) F
theorem nL(P:Program)(tm:T SV)(h:HS)(op:Op)(F:SV→Bool):rD P tm h op F=(match eb P tm h op with
 |some v=>F v
 |none=>false):=by
 unfold rD
 split
 ·rw [lenC_eq];rfl
 ·rename_i t x
  simp only [eb]
  cases opd tm x with
  |none=>rfl
  |some x=>
   simp only [FJ];rfl
 ·rename_i t x k ok
  simp only [eb]
  cases opd tm x with
  |none=>rfl
  |some x=>
   cases opd tm k with
   |none=>rfl
   |some k=>
    simp only [lukC_eq];rfl
 ·rename_i x
  simp only [eb]
  cases opd tm x with
  |none=>rfl
  |some x=>
   simp only [entC_eq];rfl
 ·rw [EY];rfl
def efBox(h:HS)(t:TypeId)(K:SV→HS→Bool)(x:Option SV):Bool:=match x with
 |some x=>GF h t x K
 |none=>false
def efStore(P:Program)(h:HS)(t:TypeId)(K:SV→HS→Bool)(a x:Option SV):Bool:=match a,x with
 |some a,some x=>vj P h t a x K
 |_,_=>false
def efMake(P:Program)(h:HS)(t:TypeId)(K:SV→HS→Bool)(l c:Option SV):Bool:=match l,c with
 |some l,some c=>yd P h t l c K
 |_,_=>false
def efPut(P:Program)(h:HS)(t:TypeId)(K:SV→HS→Bool)(m k v:Option SV):Bool:=match m,k,v with
 |some m,some k,some v=>E7 P h t m k v K
 |_,_,_=>false
def efRange(P:Program)(h:HS)(t:TypeId)(K:SV→HS→Bool)(x:Option SV):Bool:=match x with
 |some x=>vD P h t x K
 |none=>false
def efNext(h:HS)(i:Bool)(K:SV→HS→Bool)(x:Option SV):Bool:=match x with
 |some x=>BA h x i K
 |none=>false
def efVal(call:ed)(h:HS)(K E:SV→HS→Bool)(f:Option SV)(args:Option (List SV)):Bool:=match f with
 |some fv=>match asFn fv,args with
  |some (f,caps),some xs=>call f (xs++caps) h K E
  |_,_=>false
 |none=>false
def efConv(P:Program)(h:HS)(s d:TypeId)(K:SV→HS→Bool)(x:Option SV):Bool:=match x with
 |some x=>Cd P h s d x K
 |none=>false
def Ax(P:Program)(call:ed)(tm:T SV)(h:HS)(c:Call)(K E:SV→HS→Bool):Bool:=match c.callee with
 | .value f=>efVal call h K E (opd tm f) (kJ tm c.args.toList)
 |_=>uT P call tm h c K E
def effF(P:Program)(call:ed)(tm:T SV)(h:HS)(op:Op)(K E:SV→HS→Bool):Bool:=match op with
 | .alloc t=>tv P h t K
 | .box t x=>efBox h t K (opd tm x)
 | .store t a x=>efStore P h t K (opd tm a) (opd tm x)
 | .makeSlice t l c=>efMake P h t K (opd tm l) (opd tm c)
 | .mapUpdate t m k v=>efPut P h t K (opd tm m) (opd tm k) (opd tm v)
 | .insert t m k v=>efPut P h t K (opd tm m) (opd tm k) (opd tm v)
 | .range t x=>efRange P h t K (opd tm x)
 | .next x i=>efNext h i K (opd tm x)
 | .call c=>Ax P call tm h c K E
 | .convert s d x=>efConv P h s d K (opd tm x)
 |op=>wJ P call tm h op K E
theorem DU(P:Program)(call:ed)(tm:T SV)(h:HS)(c:Call)(K E:SV→HS→Bool):Ax P call tm h c K E=uT P call tm h c K E:=by
 unfold Ax
 split
 ·rename_i f hf
  unfold uT;rw [hf];rfl
 ·rfl
theorem BY(P:Program)(call:ed)(tm:T SV)(h:HS)(op:Op)(K E:SV→HS→Bool):effF P call tm h op K E=wJ P call tm h op K E:=by
 cases op with
 |call c=>exact DU _ _ _ _ _ _ _
 |_=>rfl
def zv(P:Program)(t:TypeId)(x:SV)(lo hi:Option SV):Option (SV×SV):=
 match ty P t with
 |none=>none
 |some s=>match s.und with
  | .slice e=>match ty P e with
    |none=>none
    |some se=>match x with
     | .slc b o len (.sub b' d)=>match bounds len len lo hi none with
       |some (r,l,h,_)=>bif r&&Nat.beq l h then some (.slc b o 0 (.lit 0),.slc b (o+l*se.size) 0 (.sub b' (d+l)))else none
       |none=>none
     |_=>none
  |_=>none
theorem zu{P:Program}{t:TypeId}{x A B:SV}{lo hi:Option SV}(h:zv P t x lo hi=some (A,B)){ρ:Nat→Loc}{n:Nat}(hx:x.lt ρ n):
  ∃z,(z=A∨z=B)∧z.lt ρ n∧∀w,(Instr.sliceAt t (x.den ρ) (lo.map (SV.den ρ)) (hi.map (SV.den ρ)) none).run P w= .ok (z.den ρ) w:=by
 unfold zv at h
 split at h
 ·cases h
 ·rename_i s hs
  split at h
  ·rename_i e hd
   split at h
   ·cases h
   ·rename_i se hse
    split at h
    ·rename_i b o len b' d
     have hlen:len≤(ρ b').cap-d:=hx.2.2
     split at h
     ·rename_i r l h' m hb
      cases hc:r&&Nat.beq l h' with
      |false=>rw [hc]at h;cases h
      |true=>
       rw [hc]at h;simp only [cond_true,Option.some.injEq,Prod.mk.injEq]at h;obtain⟨rfl,rfl⟩:=h;simp only [Bool.and_eq_true]at hc;obtain⟨h1,hz⟩:=hc;have hz:=Nat.eq_of_beq_eq_true hz;subst hz
       have hb':bounds len ((ρ b').cap-d) lo hi none=some (true,l,l,(ρ b').cap-d):=by
        unfold bounds at hb ⊢;simp only at hb ⊢
        split at hb
        ·rename_i li hv hl hh
         injection hb with hb;injection hb with k1 hb;injection hb with k2 hb;injection hb with k3 k4
         rw [h1]at k1;simp only [k2,k3];simp only [Bool.and_eq_true,decide_eq_true_eq,Bool.or_eq_true]at k1
         have:(decide (0≤li)&&decide (li≤hv)&&(hi.isNone||decide (hv≤(((ρ b').cap-d:Nat):Int))))=true:=by
          simp only [Bool.and_eq_true,decide_eq_true_eq,Bool.or_eq_true];exact⟨k1.1,k1.2.imp id (fun _=>by omega)⟩
         rw [this]
        ·cases hb
       have hle:l≤len:=by
        obtain⟨_,_,g5,g6,_,g8⟩:=dz (P:=P) hb h1 ρ default true
        cases hi with
        |none=>have:=g8 rfl;omega
        |some _=>have:=g5 rfl;have:=g6 rfl;omega
       have hrun:∀w:World,(Instr.sliceAt t ((SV.slc b o len (.sub b' d)).den ρ) (lo.map (SV.den ρ)) (hi.map (SV.den ρ)) none).run P w=
         .ok (.slice (if (ρ b').cap-d-l=0 then some ⟨(ρ b).blk,(ρ b).off+o,none⟩else some (Addr.add ⟨(ρ b).blk,(ρ b).off+o,none⟩ (l*se.size))) (l-l) ((ρ b').cap-d-l)) w:=by
        intro w;obtain⟨h3,_⟩:=dz (P:=P) hb' rfl ρ w true;simp only [Option.map_none]at h3;have hu:=aA w hs;simp only [Instr.sliceAt,Sem.run_bind,hu,hd,Result.andThen_ok,Instr.slice,SV.den,df.den];simp only [h3,bK w hse,Result.andThen_ok,Sem.run_pure];congr 2
        by_cases h0:(ρ b').cap-d-l=0
        ·rw [if_pos h0,if_pos (by omega)]
        ·rw [if_neg h0,if_neg (by omega)];rfl
       by_cases h0:(ρ b').cap-d-l=0
       ·refine⟨.slc b o 0 (.lit 0),.inl rfl,⟨hx.1,trivial,Nat.zero_le _⟩,fun w=> ?_⟩
        rw [hrun w,if_pos h0,h0];simp [SV.den,df.den]
       ·refine⟨.slc b (o+l*se.size) 0 (.sub b' (d+l)),.inr rfl,⟨hx.1,hx.2.1,Nat.zero_le _⟩,fun w=> ?_⟩
        rw [hrun w,if_neg h0];simp [SV.den,df.den,db,Nat.add_assoc,Nat.sub_add_eq]
     ·cases h
    ·cases h
  ·cases h
def altF(P:Program)(tm:T SV)(op:Op):Option (SV×SV):=match op with
 | .slice t x lo hi mx=>match mx with
   |none=>match opd tm x,jf tm lo,jf tm hi with
    |some x,some lo,some hi=>zv P t x lo hi
    |_,_,_=>none
   |some _=>none
 |_=>none
theorem za{P:Program}{tm:T SV}{op:Op}{A B:SV}(h:altF P tm op=some (A,B)){ρ:Nat→Loc}{sz nx:Nat}{a:Act}(R:dR dfs ρ tm sz nx a)(o:Oper)(ho:o.op=op):
  ∃z,(z=A∨z=B)∧z.lt ρ nx∧∀w,(execOp a.eval o).run P w= .ok (.value (z.den ρ)) w:=by
 unfold altF at h
 split at h
 ·split at h
  ·split at h
   ·rename_i x lo hi hx hlo hhi
    obtain⟨h1,h2⟩:=bg R hx;obtain⟨z,k1,k2,k3⟩:=zu h h2;refine⟨z,k1,k2,fun w=> ?_⟩;unfold execOp;rw [ho];have k3:=k3 w;simp only [Sem.run_bind,h1,iG R hlo,iG R hhi,Option.map_none,k3,Result.andThen_ok,Sem.run_pure]
   ·cases h
  ·cases h
 ·cases h
def Cf(x:Option (SV×SV))(F:SV→Bool):Bool:=match x with
 |some (a,b)=>bif F a then F b else false
 |none=>false
theorem yZ{x:Option (SV×SV)}{F:SV→Bool}(h:Cf x F=true):∃a b,x=some (a,b)∧F a=true∧F b=true:=by
 unfold Cf at h
 split at h
 ·rename_i a b
  cases ha:F a with
  |false=>rw [ha]at h;exact absurd h Bool.false_ne_true
  |true=>rw [ha]at h;exact⟨a,b,rfl,ha,h⟩
 ·exact absurd h Bool.false_ne_true
end
end Go.Sx
