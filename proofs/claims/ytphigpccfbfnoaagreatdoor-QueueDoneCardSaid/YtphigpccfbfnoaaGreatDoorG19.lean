/-
  Parts of the proof: PaE PaF ApN LmA ApB
-/
import Derived.Test.YtphigpccfbfnoaaGreatDoorG18
import Derived.RangeFuncFrom
import Derived.Test.YtphigpccfbfnoaaGreatDoorG14
import Derived.Test.YtphigpccfbfnoaaGreatDoorG15
import Derived.Test.YtphigpccfbfnoaaGreatDoorG16
import Derived.Test.YtphigpccfbfnoaaGreatDoorG17
set_option maxRecDepth 100000
set_option maxHeartbeats 0
namespace Go.Proofs.YtphigpccfbfnoaaGreatDoor
open Go.RowKit Go.Shelf
attribute [local go_sem] Oper.semAt_some
theorem wM(W:World)(v:Value)(t:TypeId):(W.alloc (.cells #[v] t)).cell? ⟨W.heap.size,0,none⟩=some v∧(W.alloc (.cells #[v] t)).frozen? ⟨W.heap.size,0,none⟩=false:=by
 have h:=World.alloc_heap_new W (.cells #[v] t);constructor
 ·simp only [World.cell?,h];rfl
 ·simp only [World.frozen?,h];rfl
theorem xq{W:World}{p a:Addr}(v:Value)(h:p.block≠a.block):(W.setCell p v).cell? a=W.cell? a:=
 World.cell?_of_block (Below.heap_setCell _ _ _ _ (fun e=>h e.symm))
theorem D6{W:World}{a:Addr}{v:Value}(o:Obj)(h:W.cell? a=some v):(W.alloc o).cell? a=some v:=cell_kept h (World.grownBy_alloc W o none) (fun r e=>by cases e)
theorem yG{W:World}{a:Addr}{v:Value}(o:Obj)(h:W.cell? a=some v)(hf:W.frozen? a=false):(W.alloc o).frozen? a=false:=(frozen_kept h (World.grownBy_alloc W o none) (fun r e=>by cases e)).trans hf
theorem head_of(p:ByteArray)(h:0<p.size)(e:(((p[0]'h).toNat:Nat):Int)=47):∃q,p.data.toList=47::q∧q.length+1=p.size:=by
 obtain⟨⟨l⟩⟩:=p
 cases l with
 |nil=>simp [ByteArray.size]at h
 |cons b l=>
  refine⟨l,?_,rfl⟩;have e':((b.toNat:Nat):Int)=47:=e;have:b=47:=UInt8.toNat_inj.1 (by have h47:(47:UInt8).toNat=47:=rfl;omega);rw [this]
theorem xk(p:ByteArray)(h:¬p.toList= []):0<p.size:=by
 rw [ByteArray.toList_eq]at h;rw [eO];exact List.length_pos_iff.2 h
theorem Fo(p:ByteArray)(q:List UInt8)(hp:p.data.toList=47::q)(h:0<p.size):(((p[0]'h).toNat:Nat):Int)=47:=by
 obtain⟨⟨l⟩⟩:=p;simp at hp;subst hp;rfl
def bO:List UInt8→Bool
 |47::q=>decide (q.length<200)&&dr q
 |_=>false
theorem parts1(p:ByteArray)(w:World):
  Calls Tryz.prog 120 #[.string p] w fun e w'=>e= .returned (.func (.func 158) #[] #[.pointer (some ⟨w.heap.size,0,none⟩)])∧w'=w.alloc (.cells #[.string p] 9):=by
 go_enter Tryz.func120,Tryz.ntmps120
 go_wp2
 go_ret
 exact⟨rfl,rfl⟩
theorem lX{l:List UInt8}(h:∀q,l=47::q→¬q.length<200):bO l=false:=by
 unfold bO
 split
 ·rename_i q
  simp [h q rfl]
 ·rfl
theorem Ad{R:Ending→World→Prop}{fn:Func}{a:Act}{w:World}(hd:a.defers= []){v:Value}(hr:(results fn a.tmps).run Tryz.prog w= .ok v w)(h:R (.returned v) w):bodyPostM Fence.wide 5 Tryz.prog fn R .ret a w:=by
 show LeavesInM _ _ _ _ _ _ _ _ _
 rw [hd];exact⟨v,hr,h⟩
structure I0(w0:World)(p:ByteArray)(W:World):Prop where
 ca:W.cell? ⟨w0.heap.size,0,none⟩=some (.bool false)
 fa:W.frozen? ⟨w0.heap.size,0,none⟩=false
 cb:W.cell? ⟨w0.heap.size+1,0,none⟩=some (.string p)
 fb:W.frozen? ⟨w0.heap.size+1,0,none⟩=false
 bl:Below w0.heap.size w0 W
theorem I0.own{w0:World}{p:ByteArray}{W W':World}{row:Option Nat}(h:I0 w0 p W)(hg:W.grownBy W' row)(hr:∀r,row=some r→w0.heap.size≤r∧∃o:Obj,W.heap[r]? =some o∧o.isCells=false):I0 w0 p W':=
 ⟨cell_kept h.ca hg (fun r e=>(hr r e).2),(frozen_kept h.ca hg (fun r e=>(hr r e).2)).trans h.fa,cell_kept h.cb hg (fun r e=>(hr r e).2),(frozen_kept h.cb hg (fun r e=>(hr r e).2)).trans h.fb,h.bl.grown hg h.bl.size (fun k e=>(hr k e).1)⟩
theorem I0.put{w0:World}{p:ByteArray}{W:World}{k:Nat}{o:Obj}(o':Obj)(h:I0 w0 p W)(hk:w0.heap.size≤k)(ho:W.heap[k]? =some o)(hc:o.isCells=false):I0 w0 p (W.putObj k o'):=
 h.own (grownBy_putObj' W k o') (fun r e=>by cases e;exact⟨hk,o,ho,hc⟩)
theorem I0.alloc{w0:World}{p:ByteArray}{W:World}(o:Obj)(h:I0 w0 p W):I0 w0 p (W.alloc o):=
 h.own (World.grownBy_alloc W o none) (fun r e=>by cases e)
theorem I0.drew{w0:World}{p:ByteArray}{W:World}(k:Nat)(h:I0 w0 p W):I0 w0 p (W.drewN k):=
 ⟨h.ca,h.fa,h.cb,h.fb,below_drewN h.bl k⟩
theorem I0.set{w0:World}{p:ByteArray}{W:World}(p':ByteArray)(h:I0 w0 p W):I0 w0 p' (W.setCell ⟨w0.heap.size+1,0,none⟩ (.string p')):=by
 refine⟨?_,?_,?_,?_,h.bl.setCell (by simp) _⟩
 ·exact(xq _ (by show _≠_;simp)).trans h.ca
 ·rw [World.frozen?_setCell];exact h.fa
 ·exact World.cell?_setCell_same' _ _ _ (by rw [h.cb];rfl)
 ·rw [World.frozen?_setCell];exact h.fb
def bodyEnd(w0:World)(p x:ByteArray)(W:World):Exit→Act→World→Prop
 | .normal,_,W'=>Hid (cE x.data.toList=true)∧KeepsOthers W W'∧I0 w0 p W'
 | .ret,_,W'=>Hid (cE x.data.toList=false)∧KeepsOthers W W'∧I0 w0 p W'
 |_,_,_=>False
theorem loop0{n:Nat}(hn:3≤n){t:Tmp}{g:Operand}{assign body:Code}{Q:Exit→Act→World→Prop}{a:Act}{w0 w:World}(hw:w0.heap.size+2≤w.heap.size)
  (hg:a.eval g= .func (.func 158) #[] #[.pointer (some ⟨w0.heap.size+1,0,none⟩)]) (p0:ByteArray) (q0:List UInt8) (hp0:Hid (p0.data.toList=47::q0)) (hsz:p0.size≤200)
  (hI:I0 w0 p0 w) (a₁:ByteArray→Act)
  (hassign:∀(l:Nat) (x:ByteArray) (W:World) (K:Act→World→Prop),K (a₁ x) W→
    assign.wpIn (Fence.wide.inRound l) (n-1-1) Tryz.prog (Exit.then K (fun _ _ _=>False)) { tmps:=((#[t]:Array Tmp).zip #[Value.string x]).foldl (fun t (p,v)=>t.setIfInBounds p v) a.tmps,defers:= [] } W)
  (hbody:∀(l:Nat) (p x:ByteArray) (W:World),I0 w0 p W→body.wpIn (Fence.wide.inRound l) (n-1-1) Tryz.prog (bodyEnd w0 p x W) (a₁ x) W)
  (hdone:∀(D:Nat) (p:ByteArray) (W:World),w0.heap.size≤D→Hid (dr q0=true)→I0 w0 p W→W.heap[D]? =some (.deferred (some []))→Q .normal { a with defers:= { target:= .collected D,args:= #[] } ::a.defers } W)
  (hstop:∀(D:Nat) (p:ByteArray) (W:World),w0.heap.size≤D→Hid (dr q0=false)→I0 w0 p W→W.heap[D]? =some (.deferred (some []))→Code.ret.wpIn Fence.wide n Tryz.prog Q { a with defers:= { target:= .collected D,args:= #[] } ::a.defers } W):
  (Code.rangeFunc g #[t] assign body).wpIn Fence.wide n Tryz.prog Q a w:=by
 refine wpIn_rangeFunc ?_;intro fn hfn;obtain⟨rec,hrec⟩:∃rec:LoopState→Option Code→Loop,rec=fun st pe=> { state:=st,pending:=pe,fn,tmps:=a.tmps,params:= #[t],assign,body,defers:=w.heap.size } :=⟨_,rfl⟩
 obtain⟨W1,hW1⟩:∃W1,(w.alloc (.deferred (some []))).alloc (.loop (rec .ready none))=W1:=⟨_,rfl⟩
 have hL1:W1.heap[w.heap.size+1]? =some (.loop (rec .ready none)):=by
  rw [←hW1];have:=World.alloc_heap_new (w.alloc (.deferred (some []))) (.loop (rec .ready none));rwa [World.size_alloc]at this
 have hK1:W1.heap[w.heap.size]? =some (.deferred (some [])):=by
  rw [←hW1];exact(Below.heap_alloc _ _ _ (by simp)).trans (World.alloc_heap_new w _)
 have hI1:I0 w0 p0 W1:=by rw [←hW1];exact(hI.alloc _).alloc _
 have eg:∀args w,(callFunc 158 args).run Tryz.prog w= .ok (.enter 158 args) w:=enters_of Tryz.func158 (by kernel_rfl) rfl
 refine⟨w.heap.size+1, [{ target:= .collected w.heap.size,args:= #[] }],W1, { target:= .fn (.func 158) #[.pointer (some ⟨w0.heap.size+1,0,none⟩)],args:= #[.func (.yield (w.heap.size+1)) #[] #[]] },W1,158,
  #[.func (.yield (w.heap.size+1)) #[] #[]]++ #[.pointer (some ⟨w0.heap.size+1,0,none⟩)],W1,?_,?_,?_,?_,fun h=>(by cases h),?_⟩
 ·rw [←hW1,hrec];exact run_enterLoop_outer _ _ _ _ _
 ·simp only [resolve,hg]
  simp [go_sem]
 ·intro f' hf';trivial
 ·simp [invoke,go_sem,eg]
 ·refine(iter1 (n-1) (by omega) (w.heap.size+1) (w0.heap.size+1)
    (fun p W=>I0 w0 p W∧W.heap[w.heap.size+1]? =some (.loop (rec .ready none))∧W.heap[w.heap.size]? =some (.deferred (some [])))
    (fun p W=>I0 w0 p W∧W.heap[w.heap.size+1]? =some (.loop (rec .done (some .ret)))∧W.heap[w.heap.size]? =some (.deferred (some [])))
    (fun p W h=>⟨h.1.cb,h.1.fb⟩) (fun p W h=>h.1.cb) (fun p W k h=>⟨h.1.drew k,h.2.1,h.2.2⟩)
    (fun p p' W h=>⟨h.1.set p',(Below.heap_setCell _ _ _ _ (by show _≠w0.heap.size+1;omega)).trans h.2.1,(Below.heap_setCell _ _ _ _ (by show _≠w0.heap.size+1;omega)).trans h.2.2⟩)
    ?_ p0 q0 hp0 hsz W1 ⟨hI1,hL1,hK1⟩).mono ?_
  ·
   rintro p x W ⟨hi,hl,hk⟩
   have hlt:w.heap.size+1<W.heap.size:=(Array.getElem?_eq_some_iff.1 hl).1;have hy:=run_yield (P:=Tryz.prog) (args:= #[.string x]) hl (by rw [hrec];rfl);rw [hrec]at hy;refine⟨fn,_,assign,body,hy,roundIn_of_wpIn hfn (hassign _ x W _ ⟨_,run_beginRound hl (by rw [hrec]),?_⟩)⟩;have hl2:(W.putObj (w.heap.size+1) (.loop { rec .ready none with state:= .busy })).heap[w.heap.size+1]? =some (.loop { rec .ready none with state:= .busy }):=World.putObj_heap_same hlt;have hk2:(W.putObj (w.heap.size+1) (.loop { rec .ready none with state:= .busy })).heap[w.heap.size]? =some (.deferred (some [])):=(World.putObj_heap_other (by omega)).trans hk;refine wpIn_mono (hbody _ p x _ (hi.put _ (by omega) hl rfl)) ?_
   have fin:∀(jump:Option Code) (W3:World),KeepsOthers (W.putObj (w.heap.size+1) (.loop { rec .ready none with state:= .busy })) W3→
     (Instr.endRound (w.heap.size+1) jump).run Tryz.prog W3= .ok (.bool jump.isNone) (W3.putObj (w.heap.size+1) (.loop (rec (if jump.isNone then .ready else .done) jump)))∧
     W3.heap[w.heap.size+1]? =some (.loop { rec .ready none with state:= .busy })∧
     (W3.putObj (w.heap.size+1) (.loop (rec (if jump.isNone then .ready else .done) jump))).heap[w.heap.size+1]? =some (.loop (rec (if jump.isNone then .ready else .done) jump))∧
     (W3.putObj (w.heap.size+1) (.loop (rec (if jump.isNone then .ready else .done) jump))).heap[w.heap.size]? =some (.deferred (some [])):=fun jump W3 hk3=>by
    have hl3:=hk3.same _ _ hl2 rfl;have:=run_endRound (P:=Tryz.prog) jump hl3;rw [hrec]at this ⊢;exact⟨this,by rw [hrec]at hl3;exact hl3,World.putObj_heap_same (Array.getElem?_eq_some_iff.1 hl3).1,(World.putObj_heap_other (by omega)).trans (hk3.same _ _ hk2 rfl)⟩
   rintro e a3 W3 hp
   cases e with
   |normal=>
    obtain⟨ho,hk3,hi3⟩:=hp;obtain⟨hr,hl3,hl4,hk4⟩:=fin none W3 hk3;exact⟨_,_,hr,.inl ⟨ho,rfl,hi3.put _ (by omega) hl3 rfl,hl4,hk4⟩⟩
   |ret=>
    obtain⟨ho,hk3,hi3⟩:=hp;obtain⟨hr,hl3,hl4,hk4⟩:=fin (some .ret) W3 hk3;exact⟨_,_,hr,.inr ⟨ho,rfl,hi3.put _ (by omega) hl3 rfl,hl4,hk4⟩⟩
   |exit id=>exact hp.elim
   |goto t=>exact hp.elim
   |panic ch=>exact hp.elim
   |outgrown=>exact hp.elim
  ·
   rintro e W2 ⟨⟨v,rfl⟩,(⟨hS,p,hi,hl,hk⟩|⟨hS,p,hi,hl,hk⟩)⟩
   ·exact⟨none,_,by have:=run_endLoop (P:=Tryz.prog) hl (by rw [hrec];simp);rw [hrec]at this;exact this,hdone _ p _ (by omega) hS (hi.put _ (by omega) hl rfl) ((World.putObj_heap_other (by omega)).trans hk)⟩
   ·exact⟨some .ret,_,by have:=run_endLoop (P:=Tryz.prog) hl (by rw [hrec];simp);rw [hrec]at this;exact this,hstop _ p _ (by omega) hS (hi.put _ (by omega) hl rfl) ((World.putObj_heap_other (by omega)).trans hk)⟩
theorem check0(p:ByteArray)(w:World):
  CallsIn Fence.wide 5 Tryz.prog 68 #[.string p] w fun e w'=>e= .returned (.bool (bO p.data.toList))∧Below w.heap.size w w':=by
 have hb1:Below w.heap.size w (w.alloc (.cells #[.bool false] 4)):=(Below.refl _ w).alloc (Nat.le_refl _) _;have hcA:=(wM w (.bool false) 4).1;have hfA:=(wM w (.bool false) 4).2
 by_cases hbad:∀q,p.data.toList=47::q→¬q.length<200
 ·have hno:Hid (bO p.data.toList=false):=lX hbad
  have hbad':Hid (∀q,p.data.toList=47::q→¬q.length<200):=hbad;clear hbad;refine callsIn_of_wp_marks Tryz.func68 rfl trivial ?_ rfl;simp only [Tryz.ntmps68,List.size_toArray,List.length_cons,List.length_nil,Nat.reduceAdd,Nat.reduceSub,Array.replicate_succ,Array.replicate_zero,List.push_toArray,List.append_toArray,List.nil_append,List.cons_append]
  gi_wp2
  ·refine Ad rfl (v:= .bool false) ?_ ⟨by rw [hno.out],hb1⟩
   simp [results,Tryz.f68,go_sem,hcA]
  ·refine Ad rfl (v:= .bool false) ?_ ⟨by rw [hno.out],hb1⟩
   simp [results,Tryz.f68,go_sem,hcA]
  ·exfalso
   rename_i g1 g2 g3 g4 _ _ _ _ _ _;obtain⟨q,h1,h2⟩:=head_of p g2 g3;exact hbad'.out q h1 (by have:=g4.2;omega)
  ·refine Ad rfl (v:= .bool false) ?_ ⟨by rw [hno.out],hb1⟩
   simp [results,Tryz.f68,go_sem,hcA]
  ·exfalso
   rename_i g1 _ _ g3;exact g3 (xk p g1)
 ·obtain⟨q,hq⟩:=Classical.not_forall.1 hbad
  obtain⟨hp,hlen⟩:=Classical.not_imp.1 hq;have hlen':q.length<200:=Classical.not_not.1 hlen;have hsz:p.size=q.length+1:=by rw [eO,hp];rfl
  have hpos:0<p.size:=by omega
  have hhd:=Fo p q hp hpos;have hp':Hid (p.data.toList=47::q):=hp;have hsz':Hid (p.size=q.length+1):=hsz;have hle:(p.size:Int)≤200:=by omega
  have hee:p.toList.isEmpty=false:=by rw [ByteArray.toList_eq,hp];rfl
  have hok:Hid (bO p.data.toList=dr q):=by
   show _=_
   rw [hp];unfold bO;simp [hlen']
  clear hbad hq hlen hlen' hp hsz;refine callsIn_of_wp_marks Tryz.func68 rfl trivial ?_ rfl;simp only [Tryz.ntmps68,List.size_toArray,List.length_cons,List.length_nil,Nat.reduceAdd,Nat.reduceSub,Array.replicate_succ,Array.replicate_zero,List.push_toArray,List.append_toArray,List.nil_append,List.cons_append]
  gi_wp2
  refine⟨trivial,(callsIn_wide.2 (parts1 _ _)).mono ?_⟩
  rintro e w' ⟨rfl,rfl⟩
  gi_wp2
  have hI:I0 w p ((w.alloc (.cells #[.bool false] 4)).alloc (.cells #[.string p] 9)):=by
   have h:=wM (w.alloc (.cells #[.bool false] 4)) (.string p) 9;rw [World.size_alloc]at h;exact⟨D6 _ hcA,yG _ hcA hfA,h.1,h.2,hb1.alloc (by simp) _⟩
  refine loop0 (by omega) (w0:=w) (by simp) rfl p q hp' (by omega) hI
   (fun x=> { tmps:= #[.string p,undef,.pointer (some ⟨w.heap.size,0,none⟩),.string x,.string p,.bool false,.bool false,.string p,.int .u8 47,.bool false,.bool false,.bool false,.string p,.int .i64 p.size,.bool (decide (200<(p.size:Int))),.bool (decide (200<(p.size:Int))),.string p,.func (.func 158) #[] #[.pointer (some ⟨w.heap.size+1,0,none⟩)],.string x,undef,undef,undef],defers:= [] }) ?assign ?body ?done ?stop
  case assign=>
   intro l x W K hK
   gi_wp2
   exact hK
  case body=>
   intro l p1 x W h1;have hca:=h1.ca;have hfa:=h1.fa
   gi_wp2
   refine⟨trivial,(CallsIn.inRound l (callsIn_wide.2 (part1 x W))).mono ?_⟩
   rintro e W2 ⟨rfl,pos,rfl⟩
   have hi2:I0 w p1 (W.iter x pos):=h1.alloc _;have hk2:KeepsOthers W (W.iter x pos):=KeepsOthers.alloc W _;have hca2:=hi2.ca;have hfa2:=hi2.fa
   cases hx:cE x.data.toList with
   |true=>
    have hx':Hid (cE x.data.toList=true):=hx;clear hx
    gi_wp2
    exact⟨hx',hk2,hi2⟩
   |false=>
    have hx':Hid (cE x.data.toList=false):=hx;clear hx
    gi_wp2
    refine⟨hx',hk2.trans (KeepsOthers.setCell _ _ _),?_,?_,?_,?_,?_⟩
    ·exact World.cell?_setCell_same' _ _ _ (by rw [hca2];rfl)
    ·rw [World.frozen?_setCell];exact hfa2
    ·exact(xq _ (by show _≠_;simp)).trans hi2.cb
    ·rw [World.frozen?_setCell];exact hi2.fb
    ·exact hi2.bl.setCell (p:=⟨w.heap.size,0,none⟩) (Nat.le_refl _) _
  case done=>
   intro D p1 W hD hr h1 hK;have hca:=h1.ca;have hfa:=h1.fa
   gi_wp2
   have hK':=(KeepsOthers.setCell W ⟨w.heap.size,0,none⟩ (.bool true)).same D _ hK rfl;refine⟨by simp,.inl ⟨_,_,rfl,run_takeDeferred hK',?_⟩⟩;have hc5:=cell_kept (World.cell?_setCell_same' W ⟨w.heap.size,0,none⟩ (.bool true) (by rw [hca];rfl)) (grownBy_putObj' _ D (.deferred none)) (fun r e=>by cases e;exact⟨_,hK',rfl⟩);refine⟨.bool true,?_,by rw [hok.out,hr.out],(h1.bl.setCell (p:=⟨w.heap.size,0,none⟩) (Nat.le_refl _) _).trans (belowK_b (w:=w) (Nat.le_refl _) _ D _ _ hD hK' rfl rfl)⟩;simp [results,Tryz.f68,go_sem,hc5]
  case stop=>
   intro D p1 W hD hr h1 hK
   gi_wp2
   refine⟨by simp,.inl ⟨_,_,rfl,run_takeDeferred hK,?_⟩⟩;have hc5:=cell_kept h1.ca (grownBy_putObj' _ D (.deferred none)) (fun r e=>by cases e;exact⟨_,hK,rfl⟩);refine⟨.bool false,?_,by rw [hok.out,hr.out],h1.bl.trans (belowK_b (w:=w) (Nat.le_refl _) W D _ _ hD hK rfl rfl)⟩;simp [results,Tryz.f68,go_sem,hc5]
theorem AE(p:ByteArray)(w:World):Calls Tryz.prog 68 #[.string p] w fun e w'=>e= .returned (.bool (bO p.data.toList))∧Below w.heap.size w w':=callsIn_wide.1 (check0 p w)
#print axioms AE
end Go.Proofs.YtphigpccfbfnoaaGreatDoor
namespace Go.Proofs.YtphigpccfbfnoaaGreatDoor
open Go.Sx Go.RowKit Go.Shelf
def Gp:CT:=fun args h K=>match args with
 | [.v (.string s)]=>K (.v (.bool (bO s.data.toList))) h
 | [.str l]=>K (.v (.bool (bO l))) h
 |_=>false
def ctIdx:CT:=fun args h K=>match args with
 | [.v (.string s),.v (.int .u8 c)]=>K (.v (.int .i64 (Lib.indexByte s.data.toList c.toNat.toUInt8))) h
 | [.str l,.v (.int .u8 c)]=>K (.v (.int .i64 (Lib.indexByte l c.toNat.toUInt8))) h
 |_=>false
def C0:FuncId→Option CT:=fun f=>bif Nat.beq f 68 then some Gp else bif Nat.beq f 216 then some ctIdx else none
theorem tA:aF Tryz.prog C0:=by
 intro f ct h args h0 K hk ρ w H hargs;unfold C0 at h
 cases h1:Nat.beq f 68 with
 |true=>
  rw [h1]at h;have:=Nat.eq_of_beq_eq_true h1;subst this;simp only [cond_true,Option.some.injEq]at h;subst h;unfold Gp at hk
  split at hk
  ·rename_i s
   exact mJ Tryz.func68 (by kernel_rfl) rfl (AE s w) H hk rfl trivial
  ·rename_i l
   exact mJ Tryz.func68 (by kernel_rfl) rfl (AE ⟨l.toArray⟩ w) H hk rfl trivial
  ·exact absurd hk Bool.false_ne_true
 |false=>
  rw [h1]at h;simp only [cond_false]at h
  cases h2:Nat.beq f 216 with
  |true=>
   rw [h2]at h;have:=Nat.eq_of_beq_eq_true h2;subst this;simp only [cond_true,Option.some.injEq]at h;subst h
   have key:∀(s:ByteArray) (c:Int),(callFunc 216 #[.string s,.int .u8 c]).run Tryz.prog w= .ok (.value (.int .i64 (Lib.indexByte s.data.toList c.toNat.toUInt8))) w:=fun s c=>by
    rw [run_callFunc_extern Tryz.func216 (by kernel_rfl) (by kernel_rfl) (by kernel_rfl) (e:=Extern.BytealgIndexByte.indexByte) (by kernel_rfl),Lib.run_indexByteString];rfl
   unfold ctIdx at hk
   split at hk
   ·rename_i s c
    exact gK (key s c) H hk rfl trivial
   ·rename_i l c
    exact gK (key ⟨l.toArray⟩ c) H hk rfl trivial
   ·exact absurd hk Bool.false_ne_true
  |false=>rw [h2]at h;cases h
end Go.Proofs.YtphigpccfbfnoaaGreatDoor
namespace Go.Proofs.YtphigpccfbfnoaaGreatDoor
open Go.Sx Go.RowKit
noncomputable section
open Classical
def bB:aL:=⟨Unit,fun _ vs _=>vs= [.slice none 0 0],fun _ _ A v A'=>A.Sub A'∧v= .bool true⟩
theorem qy:FOk Tryz.prog 99 bB:=by
 refine aS mixed fun _ vs A hp=> ?_
 obtain rfl:vs= [.slice none 0 0]:=hp;refine⟨noC,noL,60,aj _,ak _,fun blk os out tape D hD=> ?_⟩;conv=>lhs;whnf
 refine(hD _).2 ⟨by omega,Int.le_refl _,by omega,Nat.zero_le _,rfl,fun gb A1 c1 hc1 hN1=> ?_⟩;have hs:A.Sub A1:=hN1.sub;conv=>lhs;whnf
 exact(hD _).2 ⟨hs,rfl⟩
theorem sR:FOk Tryz.prog 100 bB:=by
 refine aS mixed fun _ vs A hp=> ?_
 obtain rfl:vs= [.slice none 0 0]:=hp;refine⟨noC,noL,60,aj _,ak _,fun blk os out tape D hD=> ?_⟩;conv=>lhs;whnf
 refine(hD _).2 ⟨by omega,Int.le_refl _,by omega,Nat.zero_le _,rfl,fun gb A1 c1 hc1 hN1=> ?_⟩;have hs:A.Sub A1:=hN1.sub;conv=>lhs;whnf
 exact(hD _).2 ⟨hs,rfl⟩
theorem qD:FOk Tryz.prog 101 bB:=by
 refine aS mixed fun _ vs A hp=> ?_
 obtain rfl:vs= [.slice none 0 0]:=hp;refine⟨noC,noL,60,aj _,ak _,fun blk os out tape D hD=> ?_⟩;conv=>lhs;whnf
 refine(hD _).2 ⟨by omega,Int.le_refl _,by omega,Nat.zero_le _,rfl,fun gb A1 c1 hc1 hN1=> ?_⟩;have hs:A.Sub A1:=hN1.sub;conv=>lhs;whnf
 exact(hD _).2 ⟨hs,rfl⟩
theorem qx:FOk Tryz.prog 104 bB:=by
 refine aS mixed fun _ vs A hp=> ?_
 obtain rfl:vs= [.slice none 0 0]:=hp;refine⟨noC,noL,60,aj _,ak _,fun blk os out tape D hD=> ?_⟩;conv=>lhs;whnf
 refine(hD _).2 ⟨by omega,Int.le_refl _,by omega,Nat.zero_le _,rfl,fun gb A1 c1 hc1 hN1=> ?_⟩;have hs:A.Sub A1:=hN1.sub;conv=>lhs;whnf
 exact(hD _).2 ⟨hs,rfl⟩
theorem mB:FOk Tryz.prog 106 bB:=by
 refine aS mixed fun _ vs A hp=> ?_
 obtain rfl:vs= [.slice none 0 0]:=hp;refine⟨noC,noL,60,aj _,ak _,fun blk os out tape D hD=> ?_⟩;conv=>lhs;whnf
 refine(hD _).2 ⟨by omega,Int.le_refl _,by omega,Nat.zero_le _,rfl,fun gb A1 c1 hc1 hN1=> ?_⟩;have hs:A.Sub A1:=hN1.sub;conv=>lhs;whnf
 exact(hD _).2 ⟨hs,rfl⟩
theorem qE:FOk Tryz.prog 107 bB:=by
 refine aS mixed fun _ vs A hp=> ?_
 obtain rfl:vs= [.slice none 0 0]:=hp;refine⟨noC,noL,60,aj _,ak _,fun blk os out tape D hD=> ?_⟩;conv=>lhs;whnf
 refine(hD _).2 ⟨by omega,Int.le_refl _,by omega,Nat.zero_le _,rfl,fun gb A1 c1 hc1 hN1=> ?_⟩;have hs:A.Sub A1:=hN1.sub;conv=>lhs;whnf
 exact(hD _).2 ⟨hs,rfl⟩
theorem qB:FOk Tryz.prog 108 bB:=by
 refine aS mixed fun _ vs A hp=> ?_
 obtain rfl:vs= [.slice none 0 0]:=hp;refine⟨noC,noL,60,aj _,ak _,fun blk os out tape D hD=> ?_⟩;conv=>lhs;whnf
 refine(hD _).2 ⟨by omega,Int.le_refl _,by omega,Nat.zero_le _,rfl,fun gb A1 c1 hc1 hN1=> ?_⟩;have hs:A.Sub A1:=hN1.sub;conv=>lhs;whnf
 exact(hD _).2 ⟨hs,rfl⟩
theorem ni:FOk Tryz.prog 109 bB:=by
 refine aS mixed fun _ vs A hp=> ?_
 obtain rfl:vs= [.slice none 0 0]:=hp;refine⟨noC,noL,60,aj _,ak _,fun blk os out tape D hD=> ?_⟩;conv=>lhs;whnf
 refine(hD _).2 ⟨by omega,Int.le_refl _,by omega,Nat.zero_le _,rfl,fun gb A1 c1 hc1 hN1=> ?_⟩;have hs:A.Sub A1:=hN1.sub;conv=>lhs;whnf
 exact(hD _).2 ⟨hs,rfl⟩
theorem sS:FOk Tryz.prog 110 bB:=by
 refine aS mixed fun _ vs A hp=> ?_
 obtain rfl:vs= [.slice none 0 0]:=hp;refine⟨noC,noL,60,aj _,ak _,fun blk os out tape D hD=> ?_⟩;conv=>lhs;whnf
 refine(hD _).2 ⟨by omega,Int.le_refl _,by omega,Nat.zero_le _,rfl,fun gb A1 c1 hc1 hN1=> ?_⟩;have hs:A.Sub A1:=hN1.sub;conv=>lhs;whnf
 exact(hD _).2 ⟨hs,rfl⟩
theorem pM:FOk Tryz.prog 112 bB:=by
 refine aS mixed fun _ vs A hp=> ?_
 obtain rfl:vs= [.slice none 0 0]:=hp;refine⟨noC,noL,60,aj _,ak _,fun blk os out tape D hD=> ?_⟩;conv=>lhs;whnf
 refine(hD _).2 ⟨by omega,Int.le_refl _,by omega,Nat.zero_le _,rfl,fun gb A1 c1 hc1 hN1=> ?_⟩;have hs:A.Sub A1:=hN1.sub;conv=>lhs;whnf
 exact(hD _).2 ⟨hs,rfl⟩
theorem oq:FOk Tryz.prog 113 bB:=by
 refine aS mixed fun _ vs A hp=> ?_
 obtain rfl:vs= [.slice none 0 0]:=hp;refine⟨noC,noL,60,aj _,ak _,fun blk os out tape D hD=> ?_⟩;conv=>lhs;whnf
 refine(hD _).2 ⟨by omega,Int.le_refl _,by omega,Nat.zero_le _,rfl,fun gb A1 c1 hc1 hN1=> ?_⟩;have hs:A.Sub A1:=hN1.sub;conv=>lhs;whnf
 exact(hD _).2 ⟨hs,rfl⟩
theorem oo:FOk Tryz.prog 114 bB:=by
 refine aS mixed fun _ vs A hp=> ?_
 obtain rfl:vs= [.slice none 0 0]:=hp;refine⟨noC,noL,60,aj _,ak _,fun blk os out tape D hD=> ?_⟩;conv=>lhs;whnf
 refine(hD _).2 ⟨by omega,Int.le_refl _,by omega,Nat.zero_le _,rfl,fun gb A1 c1 hc1 hN1=> ?_⟩;have hs:A.Sub A1:=hN1.sub;conv=>lhs;whnf
 exact(hD _).2 ⟨hs,rfl⟩
theorem qC:FOk Tryz.prog 115 bB:=by
 refine aS mixed fun _ vs A hp=> ?_
 obtain rfl:vs= [.slice none 0 0]:=hp;refine⟨noC,noL,60,aj _,ak _,fun blk os out tape D hD=> ?_⟩;conv=>lhs;whnf
 refine(hD _).2 ⟨by omega,Int.le_refl _,by omega,Nat.zero_le _,rfl,fun gb A1 c1 hc1 hN1=> ?_⟩;have hs:A.Sub A1:=hN1.sub;conv=>lhs;whnf
 exact(hD _).2 ⟨hs,rfl⟩
theorem qA:FOk Tryz.prog 116 bB:=by
 refine aS mixed fun _ vs A hp=> ?_
 obtain rfl:vs= [.slice none 0 0]:=hp;refine⟨noC,noL,60,aj _,ak _,fun blk os out tape D hD=> ?_⟩;conv=>lhs;whnf
 refine(hD _).2 ⟨by omega,Int.le_refl _,by omega,Nat.zero_le _,rfl,fun gb A1 c1 hc1 hN1=> ?_⟩;have hs:A.Sub A1:=hN1.sub;conv=>lhs;whnf
 exact(hD _).2 ⟨hs,rfl⟩
theorem qz:FOk Tryz.prog 117 bB:=by
 refine aS mixed fun _ vs A hp=> ?_
 obtain rfl:vs= [.slice none 0 0]:=hp;refine⟨noC,noL,60,aj _,ak _,fun blk os out tape D hD=> ?_⟩;conv=>lhs;whnf
 refine(hD _).2 ⟨by omega,Int.le_refl _,by omega,Nat.zero_le _,rfl,fun gb A1 c1 hc1 hN1=> ?_⟩;have hs:A.Sub A1:=hN1.sub;conv=>lhs;whnf
 exact(hD _).2 ⟨hs,rfl⟩
theorem nj:FOk Tryz.prog 118 bB:=by
 refine aS mixed fun _ vs A hp=> ?_
 obtain rfl:vs= [.slice none 0 0]:=hp;refine⟨noC,noL,60,aj _,ak _,fun blk os out tape D hD=> ?_⟩;conv=>lhs;whnf
 refine(hD _).2 ⟨by omega,Int.le_refl _,by omega,Nat.zero_le _,rfl,fun gb A1 c1 hc1 hN1=> ?_⟩;have hs:A.Sub A1:=hN1.sub;conv=>lhs;whnf
 exact(hD _).2 ⟨hs,rfl⟩
def mbV(cs:List Value):Value:= .agg cs.toArray
def mkI(k i:Int):Int:=IntKind.i64.wrap (IntKind.i64.wrap (1000003*IntKind.i64.wrap (k+7))+i)
def mkB(k i:Int):Int:=IntKind.u8.wrap ((IntKind.u64.wrap (IntKind.u64.wrap (mkI k i)*11400714819323198485)).fdiv (2^min (Int.toNat 56) IntKind.u64.bits))
def ya(k:Nat)(i:Nat):Value:= .int .u8 (mkB k i)
def uE(k:Nat)(i:Nat):List Value:= [.int .i64 (mkI k i),.int .u8 0,.int .i64 0,.int .i64 0]
def fU(n:Nat):List Value:=(List.range n).map (ya 1)
def gZ(n:Nat):List Value:=(List.range n).flatMap (uE 1)
theorem bV.sl{A:aa}{g es:Nat}{e:TypeId}{n m c:Nat}{cs ys:List Value}(h:bV A g es e (n+m) c (cs++ys))(hc:cs.length=n*es):Sl A es n (.slice (some ⟨g,0,none⟩) n c) cs:=by
 refine Sl.row (Nat.le_trans (Nat.le_add_right n m) h.le) ?_;have h1:=h.rd;have h2:=cU h1 (i:=0) (m:=n*es) (by rw [Nat.add_mul];omega);rw [Nat.add_zero,List.drop_zero,←hc,List.take_left]at h2;rw [←hc];exact h2
theorem fT(l:List bT):(bD l).length=l.length*4:=by
 unfold bD
 induction l with
 |nil=>rfl
 |cons m l ih=>rw [List.map_cons,List.flatten_cons,List.length_append,ih,List.length_cons];show 4+_=_;omega
def st0:ec:=⟨0,0,0,0,0,0,0,0,0,0⟩
def mkP(k i:Int):dj:=⟨0,mkI k i,⟨#[]⟩,st0⟩
def r8:aL:=⟨Int×Int,fun g vs _=>vs= [.int .i64 g.1,.int .i64 g.2],fun g _ A v A'=>A'=A∧v= .agg (mkP g.1 g.2).cells.toArray⟩
theorem vY:FOk Tryz.prog 144 r8:=by
 refine aS mixed fun⟨k,i⟩ vs A hp=> ?_
 obtain rfl:vs= [.int .i64 k,.int .i64 i]:=hp;refine⟨noC,noL,60,aj _,ak _,fun blk os out tape D hD=> ?_⟩;conv=>lhs;whnf
 exact(hD _).2 ⟨rfl,rfl⟩
def mkTL(k i:Int):List UInt8:=
 let b (x:Int):UInt8:=UInt8.ofNat (IntKind.u8.wrap x).toNat
 [35,b k,b (k.fdiv (2^8)),b (k.fdiv (2^16)),47,b i,b (i.fdiv (2^8)),b (i.fdiv (2^16))]
def mkT(k i:Int):ByteArray:=⟨(mkTL k i).toArray⟩
theorem vX(w:World)(k i:Int)(Q:SV→Bool):ua Tryz.prog noC noL 60 138 [.v (.int .i64 k),.v (.int .i64 i)] ⟨.e,0,uB w⟩ (fun r _=>Q r)=Q (.str (mkTL k i)):=by
 kernel_rfl
def uD:aL:=⟨Int×Int,fun g vs _=>vs= [.int .i64 g.1,.int .i64 g.2],fun g _ A v A'=>A'=A∧v= .string (mkT g.1 g.2)⟩
theorem x9:FOk Tryz.prog 138 uD:=by
 rintro⟨k,i⟩ vs A w hA hvs
 obtain rfl:vs= [.int .i64 k,.int .i64 i]:=hvs
 have R:ba (fun _=>⟨0,0,0⟩) ⟨.e,0,uB w⟩ w:=by
  refine⟨rfl,rfl,rfl,fun k o hk=>hk,fun b B hb=> ?_,fun b b' B B' hb=> ?_,fun b B hb=> ?_,fun k o hk=>(by cases hk),fun b B hb=> ?_,fun k o hk=>(by cases hk)⟩<;>(rw [T.eE]at hb;cases hb)
 have hQ:ua Tryz.prog noC noL 60 138 [.v (.int .i64 k),.v (.int .i64 i)] ⟨.e,0,uB w⟩ (fun r _=>decide (r= .str (mkTL k i)))=true:=(vX w k i fun r=>decide (r= .str (mkTL k i))).trans (decide_eq_true rfl)
 refine(kL mixed (aj _) (ak _) 60 138 [.v (.int .i64 k),.v (.int .i64 i)] _ _ hQ _ w R (fun x hx=>by
  simp only [List.mem_cons,List.not_mem_nil,or_false]at hx
  rcases hx with rfl|rfl<;>trivial)).mono (fun v w' ⟨z,h',ρ',hz,hv,hl,R',_,_,hle⟩=> ?_) fun _ _ h=>h
 have old:∀k o,w.heap[k]? =some o→w'.heap[k]? =some o:=fun k o hk=>R'.mem k o (hle.1 k o hk)
 refine⟨A,⟨rfl,?_⟩,R'.os.trans hle.2.1,R'.out.trans hle.2.2.1,R'.tape.trans hle.2.2.2,fun k hk hlt=> ?_,fun k o hk=>old k o (hA k o hk),fun k o ho=> .inl ⟨o,ho⟩⟩
 ·have hz:=of_decide_eq_true hz
  rw [hv,hz];rfl
 ·have h0:w.heap[k]? =some w.heap[k]:=Array.getElem?_eq_getElem hlt
  rw [old k _ h0,h0]
end
end Go.Proofs.YtphigpccfbfnoaaGreatDoor
