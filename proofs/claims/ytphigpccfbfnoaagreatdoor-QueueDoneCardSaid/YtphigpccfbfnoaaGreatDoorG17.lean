/-
  Parts of the proof: ApC TrA CbA StA CtA MdA CmA ApA
-/
import Derived.Test.YtphigpccfbfnoaaGreatDoorG16
import Derived.Test.YtphigpccfbfnoaaGreatDoorG15
set_option maxRecDepth 100000
set_option maxHeartbeats 0
namespace Go.Proofs.YtphigpccfbfnoaaGreatDoor
open Go.Sx Go.RowKit
noncomputable section
open Classical
abbrev nlS:Value:= .slice none 0 0
def oC(t b m r:Value):List Value:= [nlS,nlS,nlS,t,b,nlS,m,nlS,nlS,nlS,nlS,nlS,r,nlS,nlS,nlS,nlS,nlS,nlS,nlS]
def bt(j:Nat):TypeId:=if j=0 then 43 else if j=1 then 26 else if j=2 then 28 else 44
structure ij(C A:aa)(b:Nat)(L:Nat→LsD)(X:Nat→List LsD):Prop where
 sub:C.Sub A
 top:aG A b (oC (L 0).v (L 1).v (L 2).v (L 3).v)
 rows:∀j,j<4→LsR A 1 (bt j) (L j) ((X j).map (·.v))
 b0:C.blk b=none
 r0:∀j,j<4→∀g,(L j).g=some g→C.blk g=none∧g≠b
 ne:∀i j,i<4→j<4→i≠j→∀g,(L i).g=some g→(L j).g≠some g
def upd{α:Type}(f:Nat→α)(j:Nat)(x:α):Nat→α:=fun i=>if i=j then x else f i
theorem jS{α:Type}(f:Nat→α)(j:Nat)(x:α):upd f j x j=x:=if_pos rfl
theorem iZ{α:Type}{f:Nat→α}{i j:Nat}{x:α}(h:i≠j):upd f j x i=f i:=if_neg h
theorem ij.len{C A:aa}{b:Nat}{L:Nat→LsD}{X:Nat→List LsD}(h:ij C A b L X)(j:Nat)(hj:j<4):(L j).n=(X j).length:=by
 have:=(h.rows j hj).len;rw [List.length_map]at this;omega
theorem ij.more{C A A':aa}{b:Nat}{L:Nat→LsD}{X:Nat→List LsD}(h:ij C A b L X)(hs:A.Sub A'):ij C A' b L X:=
 ⟨h.sub.trans hs,h.top.sub fun _ ho=>hs _ _ ho,fun j hj=>(h.rows j hj).bk fun _ _ _ ho=>hs _ _ ho,h.b0,h.r0,h.ne⟩
theorem ij.put{C A A1 A2:aa}{b j:Nat}{L:Nat→LsD}{X:Nat→List LsD}(hj:j<4)(h:ij C A b L X){base:Option (Nat×Nat)}{cs:List Value}{v':Value}{l:LsD}
  (hcont:∀m ys v' A',ys.length=m*1→0<m→dC A base (L j).n (L j).c 1 (bt j) cs ys m v' A'→∃L':LsD,L'.v=v'∧L'.n=(L j).n+m∧LsR A' 1 (bt j) L' (cs++ys)∧(∀g,L'.g=some g→(L j).g=some g∨A.blk g=none)∧(∀k o,A.blk k=some o→(L j).g≠some k→A'.blk k=some o)∧LsR A' 1 (bt j) (L j) cs∧∀g,L'.g=some g→(L j).g=some g→L'.c=(L j).c)
  (hcs:cs=(X j).map (·.v)) (ha:dC A base (L j).n (L j).c 1 (bt j) cs [l.v] 1 v' A1) (o:Nat) (ho:∀t0 t1 t2 t3:Value,(oC t0 t1 t2 t3).take o++ [v']++(oC t0 t1 t2 t3).drop (o+1)=oC (if j=0 then v' else t0) (if j=1 then v' else t1) (if j=2 then v' else t2) (if j=3 then v' else t3)) (hol:o<20) (hP:A1.Put A2 b o [v']):
  ∃L',ij C A2 b (upd L j L') (upd X j (X j++ [l])):=by
 obtain⟨L',e1,e2,e3,e4,e5,e6,e7⟩:=hcont 1 [l.v] v' A1 rfl (by omega) ha;have hbA:∃ob,A.blk b=some ob:=h.top.dom;have hbj:(L j).g≠some b:=fun e=>(h.r0 j hj b e).2 rfl
 have hk:∀k ob,A.blk k=some ob→(L j).g≠some k→k≠b→A2.blk k=some ob:=fun k ob h1 h2 h3=>by
  rw [hP.other k h3];exact e5 k ob h1 h2
 have hLb:∀g,L'.g=some g→g≠b:=fun g hg e=>by
  rcases e4 g hg with h9|h9
  ·rw [e]at h9;exact hbj h9
  ·obtain⟨ob,hob⟩:=hbA
   rw [e,hob]at h9;cases h9
 refine⟨L',⟨fun k ob hc=>hk k ob (h.sub k ob hc) (fun e=> ?_) fun e=> ?_,?_,fun i hi=> ?_,h.b0,fun i hi g hg=> ?_,fun i i' hi hi' hne g hg=> ?_⟩⟩
 ·rw [(h.r0 j hj k e).1]at hc;cases hc
 ·rw [e,h.b0]at hc;cases hc
 ·have h1:aG A1 b (oC (L 0).v (L 1).v (L 2).v (L 3).v):=h.top.sub fun ob hob=>e5 b ob hob hbj
  have h2:=h1.put hP (by show o+1≤20;omega);rw [show o+ [v'].length=o+1 from rfl,ho]at h2
  have e9:∀i,(upd L j L' i).v=if j=i then v' else(L i).v:=fun i=>by
   by_cases e:i=j
   ·subst e
    rw [jS,if_pos rfl,e1]
   ·rw [iZ e,if_neg fun e2=>e e2.symm]
  rw [e9,e9,e9,e9];exact h2
 ·by_cases e:i=j
  ·subst e
   rw [jS,jS,List.map_append];rw [hcs]at e3;exact e3.bk fun g ob hg hob=>by rw [hP.other g (hLb g hg)];exact hob
  ·rw [iZ e,iZ e]
   exact(h.rows i hi).bk fun g ob hg hob=>hk g ob hob (fun e9=>h.ne i j hi hj e g hg e9) (h.r0 i hi g hg).2
 ·by_cases e:i=j
  ·subst e
   rw [jS]at hg;refine⟨?_,hLb g hg⟩;rcases e4 g hg with h9|h9
   ·exact(h.r0 i hi g h9).1
   ·cases hc:C.blk g with
    |none=>rfl
    |some ob=>rw [h.sub g ob hc]at h9;cases h9
  ·rw [iZ e]at hg
   exact h.r0 i hi g hg
 ·by_cases e:i=j
  ·subst e
   rw [jS]at hg;rw [iZ (fun e9=>hne e9.symm)];intro h8;rcases e4 g hg with h9|h9
   ·exact h.ne i i' hi hi' hne g h9 h8
   ·obtain⟨ob,hob⟩:=(h.rows i' hi').live h8
    rw [hob]at h9;cases h9
  ·rw [iZ e]at hg
   by_cases e':i'=j
   ·subst e'
    rw [jS];intro h8;rcases e4 g h8 with h9|h9
    ·exact h.ne i i' hi hi' hne g hg h9
    ·obtain⟨ob,hob⟩:=(h.rows i hi).live hg
     rw [hob]at h9;cases h9
   ·rw [iZ e']
    exact h.ne i i' hi hi' hne g hg
structure BgG where
 C:aa
 b:Nat
 L:Nat→LsD
 X:Nat→List LsD
 l:LsD
def qW(j:Nat):aL:=⟨BgG,fun g vs A=>vs= [.pointer (some ⟨g.b,0,none⟩),g.l.v]∧ij g.C A g.b g.L g.X∧(∃base,g.l.v= .slice (aD base) g.l.n g.l.c)∧(g.X j).length≤1000000,
 fun g _ _ _ A'=>∃L',ij g.C A' g.b (upd g.L j L') (upd g.X j (g.X j++ [g.l]))⟩
theorem qg:FOk Tryz.prog 136 (qW 0):=by
 refine aS mixed fun⟨C,b,L,X,⟨lv,ln,lc,lg⟩⟩ vs A hp=> ?_
 obtain⟨rfl,hB,⟨lb,hlv⟩,hlen⟩:vs= [.pointer (some ⟨b,0,none⟩),lv]∧ij C A b L X∧(∃base,lv= .slice (aD base) ln lc)∧(X 0).length≤1000000:=hp;subst hlv;refine⟨noC,noL,60,aj _,ak _,fun blk os out tape D hD=> ?_⟩;obtain⟨base0,hbv, -⟩:=(hB.rows 0 (by omega)).app;have hn:=hB.len 0 (by omega)
 have r1:A.rd b 3 1=some [.slice (aD base0) (L 0).n (L 0).c]:=by
  rw [←hbv];exact hB.top.rd (o:=3) (n:=1) (by show 3+1≤20;omega)
 conv=>lhs;whnf
 repeat(first|refine af r1 ?_|refine au hD rfl ?_
        conv=>lhs;whnf)
 refine(hD _).2 fun ge A8 hN8=> ?_
 have hN8:A.New A8 ge #[.slice (aD lb) ln lc] 43:=hN8;have hB8:=hB.more hN8.sub;obtain⟨base,hbv2,hbase,hG,hcont⟩:=(hB8.rows 0 (by omega)).app
 have hbb:base0=base:=by
  rw [hbv]at hbv2;injection hbv2 with h1 _ _
  exact dJ h1
 subst hbb;have hPd:=hG 1 24 (by omega) (by omega) (by omega);have hrow9:A8.rd ge 0 (1*1)=some [.slice (aD lb) ln lc]:=hN8.rd (o:=0) (n:=1*1) (by show 0+1*1≤1;omega);rcases hbase with rfl|⟨gx,ox,rfl⟩<;>(conv=>lhs;whnf)
 all_goals
  refine(hD _).2 ⟨_, [.slice (aD lb) ln lc],hPd.rd,hrow9,rfl,fun v hv=>by
   rw [List.mem_singleton]at hv;rw [hv]
   rfl,?_,hPd.cap,rfl,hPd.none_,fun g' o' he' hle' _=>hPd.room 1 rfl g' o' he' hle',fun v9 A7 hAp=> ?_⟩
  ·show(L 0).n+1≤9223372036854775807
   omega
  ·obtain⟨L9,q1, -,q3, -,q5, -⟩:=hcont 1 [.slice (aD lb) ln lc] v9 A7 rfl (by omega) hAp
   obtain⟨b9,hb9, -⟩:=q3.app;rw [q1]at hb9;subst hb9
   have hroom:A7.Room b 3 1:=by
    have h9:aG A7 b (oC (L 0).v (L 1).v (L 2).v (L 3).v):=hB8.top.sub fun ob hob=>q5 b ob hob fun e=>(hB8.r0 0 (by omega) b e).2 rfl
    exact h9.room (by show 3+1≤20;omega)
   conv=>lhs;whnf
   repeat(first|refine au hD rfl ?_
          conv=>lhs;whnf)
   refine(hD _).2 ⟨hroom,fun A6 hPut=> ?_⟩;have hPut:A7.Put A6 b 3 [.slice (aD b9) L9.n L9.c]:=hPut;have hfin:=hB8.put (by omega) (l:=⟨.slice (aD lb) ln lc,ln,lc,lg⟩) hcont rfl hAp 3 (fun _ _ _ _=>rfl) (by omega) hPut;conv=>lhs;whnf
   exact(hD _).2 hfin
theorem qh:FOk Tryz.prog 135 (qW 1):=by
 refine aS mixed fun⟨C,b,L,X,⟨lv,ln,lc,lg⟩⟩ vs A hp=> ?_
 obtain⟨rfl,hB,⟨lb,hlv⟩,hlen⟩:vs= [.pointer (some ⟨b,0,none⟩),lv]∧ij C A b L X∧(∃base,lv= .slice (aD base) ln lc)∧(X 1).length≤1000000:=hp;subst hlv;refine⟨noC,noL,60,aj _,ak _,fun blk os out tape D hD=> ?_⟩;obtain⟨base0,hbv, -⟩:=(hB.rows 1 (by omega)).app;have hn:=hB.len 1 (by omega)
 have r1:A.rd b 4 1=some [.slice (aD base0) (L 1).n (L 1).c]:=by
  rw [←hbv];exact hB.top.rd (o:=4) (n:=1) (by show 4+1≤20;omega)
 conv=>lhs;whnf
 repeat(first|refine af r1 ?_|refine au hD rfl ?_
        conv=>lhs;whnf)
 refine(hD _).2 fun ge A8 hN8=> ?_
 have hN8:A.New A8 ge #[.slice (aD lb) ln lc] 26:=hN8;have hB8:=hB.more hN8.sub;obtain⟨base,hbv2,hbase,hG,hcont⟩:=(hB8.rows 1 (by omega)).app
 have hbb:base0=base:=by
  rw [hbv]at hbv2;injection hbv2 with h1 _ _
  exact dJ h1
 subst hbb;have hPd:=hG 1 24 (by omega) (by omega) (by omega);have hrow9:A8.rd ge 0 (1*1)=some [.slice (aD lb) ln lc]:=hN8.rd (o:=0) (n:=1*1) (by show 0+1*1≤1;omega);rcases hbase with rfl|⟨gx,ox,rfl⟩<;>(conv=>lhs;whnf)
 all_goals
  refine(hD _).2 ⟨_, [.slice (aD lb) ln lc],hPd.rd,hrow9,rfl,fun v hv=>by
   rw [List.mem_singleton]at hv;rw [hv]
   rfl,?_,hPd.cap,rfl,hPd.none_,fun g' o' he' hle' _=>hPd.room 1 rfl g' o' he' hle',fun v9 A7 hAp=> ?_⟩
  ·show(L 1).n+1≤9223372036854775807
   omega
  ·obtain⟨L9,q1, -,q3, -,q5, -⟩:=hcont 1 [.slice (aD lb) ln lc] v9 A7 rfl (by omega) hAp
   obtain⟨b9,hb9, -⟩:=q3.app;rw [q1]at hb9;subst hb9
   have hroom:A7.Room b 4 1:=by
    have h9:aG A7 b (oC (L 0).v (L 1).v (L 2).v (L 3).v):=hB8.top.sub fun ob hob=>q5 b ob hob fun e=>(hB8.r0 1 (by omega) b e).2 rfl
    exact h9.room (by show 4+1≤20;omega)
   conv=>lhs;whnf
   repeat(first|refine au hD rfl ?_
          conv=>lhs;whnf)
   refine(hD _).2 ⟨hroom,fun A6 hPut=> ?_⟩;have hPut:A7.Put A6 b 4 [.slice (aD b9) L9.n L9.c]:=hPut;have hfin:=hB8.put (by omega) (l:=⟨.slice (aD lb) ln lc,ln,lc,lg⟩) hcont rfl hAp 4 (fun _ _ _ _=>rfl) (by omega) hPut;conv=>lhs;whnf
   exact(hD _).2 hfin
theorem mE:FOk Tryz.prog 175 (qW 2):=by
 refine aS mixed fun⟨C,b,L,X,⟨lv,ln,lc,lg⟩⟩ vs A hp=> ?_
 obtain⟨rfl,hB,⟨lb,hlv⟩,hlen⟩:vs= [.pointer (some ⟨b,0,none⟩),lv]∧ij C A b L X∧(∃base,lv= .slice (aD base) ln lc)∧(X 2).length≤1000000:=hp;subst hlv;refine⟨noC,noL,60,aj _,ak _,fun blk os out tape D hD=> ?_⟩;obtain⟨base0,hbv, -⟩:=(hB.rows 2 (by omega)).app;have hn:=hB.len 2 (by omega)
 have r1:A.rd b 6 1=some [.slice (aD base0) (L 2).n (L 2).c]:=by
  rw [←hbv];exact hB.top.rd (o:=6) (n:=1) (by show 6+1≤20;omega)
 conv=>lhs;whnf
 repeat(first|refine af r1 ?_|refine au hD rfl ?_
        conv=>lhs;whnf)
 refine(hD _).2 fun ge A8 hN8=> ?_
 have hN8:A.New A8 ge #[.slice (aD lb) ln lc] 28:=hN8;have hB8:=hB.more hN8.sub;obtain⟨base,hbv2,hbase,hG,hcont⟩:=(hB8.rows 2 (by omega)).app
 have hbb:base0=base:=by
  rw [hbv]at hbv2;injection hbv2 with h1 _ _
  exact dJ h1
 subst hbb;have hPd:=hG 1 24 (by omega) (by omega) (by omega);have hrow9:A8.rd ge 0 (1*1)=some [.slice (aD lb) ln lc]:=hN8.rd (o:=0) (n:=1*1) (by show 0+1*1≤1;omega);rcases hbase with rfl|⟨gx,ox,rfl⟩<;>(conv=>lhs;whnf)
 all_goals
  refine(hD _).2 ⟨_, [.slice (aD lb) ln lc],hPd.rd,hrow9,rfl,fun v hv=>by
   rw [List.mem_singleton]at hv;rw [hv]
   rfl,?_,hPd.cap,rfl,hPd.none_,fun g' o' he' hle' _=>hPd.room 1 rfl g' o' he' hle',fun v9 A7 hAp=> ?_⟩
  ·show(L 2).n+1≤9223372036854775807
   omega
  ·obtain⟨L9,q1, -,q3, -,q5, -⟩:=hcont 1 [.slice (aD lb) ln lc] v9 A7 rfl (by omega) hAp
   obtain⟨b9,hb9, -⟩:=q3.app;rw [q1]at hb9;subst hb9
   have hroom:A7.Room b 6 1:=by
    have h9:aG A7 b (oC (L 0).v (L 1).v (L 2).v (L 3).v):=hB8.top.sub fun ob hob=>q5 b ob hob fun e=>(hB8.r0 2 (by omega) b e).2 rfl
    exact h9.room (by show 6+1≤20;omega)
   conv=>lhs;whnf
   repeat(first|refine au hD rfl ?_
          conv=>lhs;whnf)
   refine(hD _).2 ⟨hroom,fun A6 hPut=> ?_⟩;have hPut:A7.Put A6 b 6 [.slice (aD b9) L9.n L9.c]:=hPut;have hfin:=hB8.put (by omega) (l:=⟨.slice (aD lb) ln lc,ln,lc,lg⟩) hcont rfl hAp 6 (fun _ _ _ _=>rfl) (by omega) hPut;conv=>lhs;whnf
   exact(hD _).2 hfin
end
end Go.Proofs.YtphigpccfbfnoaaGreatDoor
namespace Go.Sx
noncomputable section
structure ec where
 czxid:Int
 mzxid:Int
 pzxid:Int
 ctime:Int
 mtime:Int
 ver:Int
 cver:Int
 owner:Int
 len:Int
 kids:Int
def ec.cells(s:ec):List Value:= [.int .i64 s.czxid,.int .i64 s.mzxid,.int .i64 s.pzxid,.int .i64 s.ctime,.int .i64 s.mtime,.int .i64 s.ver,.int .i64 s.cver,.int .i64 s.owner,.int .i64 s.len,.int .i64 s.kids]
structure bn where
 data:List UInt8
 stat:ec
structure bb where
 ses:Int
 tmo:Int
 ah:Int
structure aT where
 nodes:List (ByteArray×bn)
 aK:List (Int×bb)
def gV(g:Nat):Value:= .pointer (some ⟨g,0,none⟩)
def eP(s:bb):Value:= .agg #[.int .i64 s.ses,.int .i64 s.tmo,.int .i64 s.ah]
def nt(A B:aa)(g:Nat)(n:bn):Prop:=∃v,aG A g (v::n.stat.cells)∧SlB B v n.data
structure di(A B:aa)(O:Nat→Prop)(t:Nat)(T:aT)(m s:Nat)(E:List (ByteArray×Nat×bn)):Prop where
 nodes:T.nodes=dv (·.2) E
 top:aG A t [.map (some m),.map (some s)]
 nmap:bX A m (fF gV (dv (·.1) E))
 smap:bX A s (jh eP T.aK)
 cells:∀e∈E,nt A B e.2.1 e.2.2
 keys:(E.map (·.1)).Nodup
 ptrs:(E.map (·.2.1)).Nodup
 skeys:(T.aK.map (·.1)).Nodup
 sub:B.Sub A
 own:O t∧O m∧O s∧∀e∈E,O e.2.1
 off:∀k,O k→B.blk k=none
 live:∀k,O k→∃o,A.blk k=some o
 ne:m≠s∧∀e∈E,e.2.1≠t
def bz(A B:aa)(O:Nat→Prop)(t:Nat)(T:aT):Prop:=∃m s E,di A B O t T m s E
structure Step(A B:aa)(O:Nat→Prop)(A' B':aa)(O':Nat→Prop):Prop where
 bk:∀k o,A.blk k=some o→¬O k→A'.blk k=some o
 dom:∀k,A'.blk k=none→A.blk k=none
 own:∀k,O' k→O k∨A.blk k=none
 sub:B.Sub B'
 new:∀k o,B'.blk k=some o→B.blk k=some o∨A.blk k=none
theorem Step.refl(A B:aa)(O:Nat→Prop):Step A B O A B O:=⟨fun _ _ h _=>h,fun _ h=>h,fun _ h=> .inl h,aa.Sub.refl _,fun _ _ h=> .inl h⟩
theorem Step.trans{A B A1 B1 A2 B2:aa}{O O1 O2:Nat→Prop}(h:Step A B O A1 B1 O1)(k:Step A1 B1 O1 A2 B2 O2):Step A B O A2 B2 O2:=by
 refine⟨fun j o hj hO=>k.bk j o (h.bk j o hj hO) fun h1=> ?_,fun j hj=>h.dom j (k.dom j hj),fun j hj=> ?_,h.sub.trans k.sub,fun j o hj=> ?_⟩
 ·rcases h.own j h1 with h2|h2
  ·exact hO h2
  ·rw [hj]at h2;cases h2
 ·rcases k.own j hj with h1|h1
  ·exact h.own j h1
  ·exact .inr (h.dom j h1)
 ·rcases k.new j o hj with h1|h1
  ·exact h.new j o h1
  ·exact .inr (h.dom j h1)
theorem Step.stays{A B A' B' C:aa}{O O':Nat→Prop}(h:Step A B O A' B' O')(hC:C.Sub A)(hO:∀k o,C.blk k=some o→¬O k):C.Sub A':=fun k o hk=>h.bk k o (hC k o hk) (hO k o hk)
theorem nt.mono{A A' B B':aa}{g:Nat}{n:bn}(h:nt A B g n)(hg:A'.blk g=A.blk g)(hB:B.Sub B'):nt A' B' g n:=by
 obtain⟨v,h1,h2⟩:=h;exact⟨v,h1.sub fun o ho=>by rw [hg];exact ho,h2.sub hB⟩
theorem pC{κ α β:Type}(f:α→β)(l:List (κ×α)):(dv f l).map (·.1)=l.map (·.1):=by simp [dv,Function.comp_def]
theorem di.frame{A B A':aa}{O:Nat→Prop}{t:Nat}{T:aT}{m s:Nat}{E:List (ByteArray×Nat×bn)}(h:di A B O t T m s E)(hO:∀k,O k→A'.blk k=A.blk k)(hB:B.Sub A'):di A' B O t T m s E where
 nodes:=h.nodes
 top:=h.top.sub fun o ho=>by rw [hO t h.own.1];exact ho
 nmap:=h.nmap.sub fun o ho=>by rw [hO m h.own.2.1];exact ho
 smap:=h.smap.sub fun o ho=>by rw [hO s h.own.2.2.1];exact ho
 cells:=fun e he=>(h.cells e he).mono (hO _ (h.own.2.2.2 e he)) (aa.Sub.refl _)
 keys:=h.keys
 ptrs:=h.ptrs
 skeys:=h.skeys
 sub:=hB
 own:=h.own
 off:=h.off
 live:=fun k hk=>by rw [hO k hk];exact h.live k hk
 ne:=h.ne
theorem bz.frame{A B A':aa}{O:Nat→Prop}{t:Nat}{T:aT}(h:bz A B O t T)(hO:∀k,O k→A'.blk k=A.blk k)(hB:B.Sub A'):bz A' B O t T:=by
 obtain⟨m,s,E,h⟩:=h;exact⟨m,s,E,h.frame hO hB⟩
theorem di.dom{A B:aa}{O:Nat→Prop}{t:Nat}{T:aT}{m s:Nat}{E:List (ByteArray×Nat×bn)}(h:di A B O t T m s E){e:ByteArray×Nat×bn}(he:e∈E):e.2.1≠m∧e.2.1≠s:=by
 obtain⟨v,⟨c,ty,fz,h1,_⟩,_⟩:=h.cells e he;obtain⟨es,cl,h2,_⟩:=h.nmap;obtain⟨es',cl',h3,_⟩:=h.smap;exact⟨fun e=>(by rw [e,h2]at h1;cases h1),fun e=>(by rw [e,h3]at h1;cases h1)⟩
theorem di.vg{A B:aa}{O:Nat→Prop}{t:Nat}{T:aT}{m s:Nat}{E:List (ByteArray×Nat×bn)}(h:di A B O t T m s E):t≠m∧t≠s:=by
 obtain⟨c,ty,fz,h1,_⟩:=h.top;obtain⟨es,cl,h2,_⟩:=h.nmap;obtain⟨es',cl',h3,_⟩:=h.smap;exact⟨fun e=>(by rw [e,h2]at h1;cases h1),fun e=>(by rw [e,h3]at h1;cases h1)⟩
theorem di.get{A B:aa}{O:Nat→Prop}{t:Nat}{T:aT}{m s:Nat}{E:List (ByteArray×Nat×bn)}(h:di A B O t T m s E)(p:ByteArray):aM p T.nodes=(aM p E).map (·.2):=by rw [h.nodes,lA]
theorem di.look{A B:aa}{O:Nat→Prop}{t:Nat}{T:aT}{m s:Nat}{E:List (ByteArray×Nat×bn)}(h:di A B O t T m s E)(p:ByteArray):A.look m (.string p)=some ((aM p E).map fun x=>gV x.1):=by
 rw [lu h.nmap,lA]
 cases aM p E<;>rfl
theorem di.mod{A B A' B':aa}{O:Nat→Prop}{t:Nat}{T:aT}{m s:Nat}{E:List (ByteArray×Nat×bn)}(h:di A B O t T m s E){p:ByteArray}{g:Nat}{n n':bn}(hp:aM p E=some (g,n))
  (hO:∀k,O k→k≠g→A'.blk k=A.blk k) (hn:nt A' B' g n') (hB:B.Sub B') (hs:B'.Sub A') (hoff:∀k,O k→B'.blk k=none):di A' B' O t ⟨ev p (fun _=>n') T.nodes,T.aK⟩ m s (ev p (fun x=>(x.1,n')) E):=by
 have hmem:=iK (eV p) hp;obtain⟨a,b,h1,_,_,_,h2⟩:=iJ (eV p) hp;have h2:=h2 fun x=>(x.1,n')
 have hk:∀ {β:Type} (f:ByteArray×Nat×bn→β),f (p,g,n')=f (p,g,n)→(ev p (fun x=>(x.1,n')) E).map f=E.map f:=fun f hf=>by rw [h2,h1];simp [hf]
 have hne:=h.dom hmem;have hgt:=h.ne.2 _ hmem
 have hsplit:∀e∈ev p (fun x=>(x.1,n')) E,e=(p,g,n')∨(e∈E∧e.2.1≠g):=fun e he=>by
  rw [h2]at he;have hnd:=h.ptrs;rw [h1]at hnd;simp only [List.map_append,List.map_cons]at hnd;obtain⟨_,hb,hab⟩:=List.nodup_append.1 hnd;rw [List.nodup_cons]at hb;rcases List.mem_append.1 he with he|he
  ·refine .inr ⟨by rw [h1];exact List.mem_append_left _ he,fun eq=> ?_⟩
   exact hab _ (List.mem_map.2 ⟨e,he,rfl⟩) g (by simp) eq
  ·rcases List.mem_cons.1 he with rfl|he
   ·exact .inl rfl
   ·refine .inr ⟨by rw [h1];exact List.mem_append_right _ (List.mem_cons_of_mem _ he),fun eq=> ?_⟩
    exact hb.1 (List.mem_map.2 ⟨e,he,eq⟩)
 refine⟨?_,h.top.sub fun o ho=>(by rw [hO t h.own.1 (Ne.symm hgt)];exact ho),?_,h.smap.sub fun o ho=>(by rw [hO s h.own.2.2.1 (Ne.symm hne.2)];exact ho),fun e he=> ?_,by rw [hk _ rfl];exact h.keys,by rw [hk _ rfl];exact h.ptrs,h.skeys,hs,⟨h.own.1,h.own.2.1,h.own.2.2.1,fun e he=> ?_⟩,hoff,fun k hk=> ?_,⟨h.ne.1,fun e he=> ?_⟩⟩
 ·show ev p (fun _=>n') T.nodes=_
  rw [h.nodes];exact yt (·.2) (fun x=>(x.1,n')) (fun _=>n') (fun _=>rfl) p E
 ·have e1:dv (·.1) (ev p (fun x=>(x.1,n')) E)=dv (·.1) E:=hk _ rfl
  rw [e1];exact h.nmap.sub fun o ho=>(by rw [hO m h.own.2.1 (Ne.symm hne.1)];exact ho)
 ·rcases hsplit e he with rfl|⟨he,hg⟩
  ·exact hn
  ·exact(h.cells e he).mono (hO _ (h.own.2.2.2 e he) hg) hB
 ·rcases hsplit e he with rfl|⟨he,hg⟩
  ·exact h.own.2.2.2 (p,g,n) hmem
  ·exact h.own.2.2.2 e he
 ·by_cases e:k=g
  ·subst e
   obtain⟨v,h1,_⟩:=hn;exact h1.dom
  ·rw [hO k hk e];exact h.live k hk
 ·rcases hsplit e he with rfl|⟨he,hg⟩
  ·exact hgt
  ·exact h.ne.2 e he
theorem di.put{A B A' B':aa}{O:Nat→Prop}{t:Nat}{T:aT}{m s:Nat}{E:List (ByteArray×Nat×bn)}(h:di A B O t T m s E){p:ByteArray}{g:Nat}{n:bn}(hg:A.blk g=none)
  (hO:∀k,O k→k≠m→A'.blk k=A.blk k) (hm:bX A' m (cA (.string p) (gV g) (fF gV (dv (·.1) E)))) (hn:nt A' B' g n) (hB:B.Sub B') (hs:B'.Sub A') (hoff:∀k,O k∨k=g→B'.blk k=none):
  di A' B' (fun k=>O k∨k=g) t ⟨cH p n T.nodes,T.aK⟩ m s (cH p (g,n) E):=by
 have hgo:∀e∈E,e.2.1≠g:=fun e he eq=>by
  obtain⟨v,h1,_⟩:=h.cells e he;obtain⟨o,ho⟩:=h1.dom;rw [eq,hg]at ho;cases ho
 have htg:t≠g:=fun e=>by
  obtain⟨o,ho⟩:=h.top.dom;rw [e,hg]at ho;cases ho
 have hsplit:∀e∈cH p (g,n) E,e=(p,g,n)∨e∈E:=fun e he=>by
  cases hp:aM p E with
  |none=>
   rw [mf hp,List.mem_append,List.mem_singleton]at he;exact he.symm
  |some x=>
   obtain⟨a,b,h1,_,h2,_,_⟩:=iJ (eV p) hp;rw [h2]at he;rcases List.mem_append.1 he with he|he
   ·exact .inr (by rw [h1];exact List.mem_append_left _ he)
   ·rcases List.mem_cons.1 he with rfl|he
    ·exact .inl rfl
    ·exact .inr (by rw [h1];exact List.mem_append_right _ (List.mem_cons_of_mem _ he))
 have hnd:(((cH p (g,n) E).map (·.1)).Nodup)∧((cH p (g,n) E).map (·.2.1)).Nodup:=by
  cases hp:aM p E with
  |none=>
   rw [mf hp];have h9:=iz (lH p) hp;refine⟨?_,?_⟩
   ·rw [List.map_append,List.nodup_append]
    refine⟨h.keys,by simp,fun a ha b hb e=> ?_⟩;simp only [List.map_cons,List.map_nil,List.mem_singleton]at hb;subst hb;subst e;exact h9 ha
   ·rw [List.map_append,List.nodup_append]
    refine⟨h.ptrs,by simp,fun a ha b hb e=> ?_⟩;simp only [List.map_cons,List.map_nil,List.mem_singleton]at hb;subst hb;subst e
    obtain⟨x,hx,hx2⟩:=List.mem_map.1 ha;exact hgo x hx hx2
  |some x=>
   obtain⟨a,b,h1,_,h2,_,_⟩:=iJ (eV p) hp;rw [h2];have k1:=h.keys;have k2:=h.ptrs;rw [h1]at k1 k2;refine⟨by simpa using k1,?_⟩;simp only [List.map_append,List.map_cons]at k2 ⊢;obtain⟨d1,d2,d3⟩:=List.nodup_append.1 k2;rw [List.nodup_cons]at d2;refine List.nodup_append.2 ⟨d1,List.nodup_cons.2 ⟨fun hm=> ?_,d2.2⟩,fun u hu w hw e=> ?_⟩
   ·obtain⟨y,hy,hy2⟩:=List.mem_map.1 hm
    exact hgo y (by rw [h1];exact List.mem_append_right _ (List.mem_cons_of_mem _ hy)) hy2
   ·rcases List.mem_cons.1 hw with rfl|hw
    ·obtain⟨y,hy,hy2⟩:=List.mem_map.1 hu
     exact hgo y (by rw [h1];exact List.mem_append_left _ hy) (hy2.trans e)
    ·exact d3 u hu w (List.mem_cons_of_mem _ hw) e
 have htm:=h.vg;refine⟨?_,h.top.sub fun o ho=>(by rw [hO t h.own.1 htm.1];exact ho),?_,h.smap.sub fun o ho=>(by rw [hO s h.own.2.2.1 (Ne.symm h.ne.1)];exact ho),fun e he=> ?_,hnd.1,hnd.2,h.skeys,hs,⟨.inl h.own.1,.inl h.own.2.1,.inl h.own.2.2.1,fun e he=> ?_⟩,hoff,fun k hk=> ?_,⟨h.ne.1,fun e he=> ?_⟩⟩
 ·show cH p n T.nodes=_
  rw [h.nodes];exact sv (·.2) p (g,n) E
 ·have:cA (.string p) (gV g) (fF gV (dv (·.1) E))=fF gV (dv (·.1) (cH p (g,n) E)):=by
    rw [nA];congr 1;exact sv (·.1) p (g,n) E
  rw [←this];exact hm
 ·rcases hsplit e he with rfl|he
  ·exact hn
  ·exact(h.cells e he).mono (hO _ (h.own.2.2.2 e he) (h.dom he).1) hB
 ·rcases hsplit e he with rfl|he
  ·exact .inr rfl
  ·exact .inl (h.own.2.2.2 e he)
 ·rcases hk with hk|rfl
  ·by_cases e:k=m
   ·subst e
    obtain⟨es,cl,h1,_⟩:=hm;exact⟨_,h1⟩
   ·rw [hO k hk e];exact h.live k hk
  ·obtain⟨v,h1,_⟩:=hn
   exact h1.dom
 ·rcases hsplit e he with rfl|he
  ·exact Ne.symm htg
  ·exact h.ne.2 e he
theorem fX{κ α:Type} [BEq κ](p:κ):∀l:List (κ×α),List.Sublist (eJ p l) l
 | []=>List.Sublist.refl _
 |e::es=>by
  simp only [eJ]
  cases hb:p==e.1 with
  |true=>exact List.sublist_cons_self _ _
  |false=>exact(fX p es).cons_cons e
theorem di.del{A B A':aa}{O:Nat→Prop}{t:Nat}{T:aT}{m s:Nat}{E:List (ByteArray×Nat×bn)}(h:di A B O t T m s E){p:ByteArray}
  (hO:∀k,k≠m→A'.blk k=A.blk k) (hm:bX A' m (ib (.string p) (fF gV (dv (·.1) E)))):di A' B O t ⟨eJ p T.nodes,T.aK⟩ m s (eJ p E):=by
 have hsub:=fX p E;have htm:=h.vg;refine⟨?_,h.top.sub fun o ho=>(by rw [hO t htm.1];exact ho),?_,h.smap.sub fun o ho=>(by rw [hO s (Ne.symm h.ne.1)];exact ho),fun e he=> ?_,h.keys.sublist (hsub.map _),h.ptrs.sublist (hsub.map _),h.skeys,fun k o hk=> ?_,⟨h.own.1,h.own.2.1,h.own.2.2.1,fun e he=>h.own.2.2.2 e (hsub.subset he)⟩,h.off,fun k hk=> ?_,⟨h.ne.1,fun e he=>h.ne.2 e (hsub.subset he)⟩⟩
 ·show eJ p T.nodes=_
  rw [h.nodes];exact sB (·.2) p E
 ·have:ib (.string p) (fF gV (dv (·.1) E))=fF gV (dv (·.1) (eJ p E)):=by
    rw [xe];congr 1;exact sB (·.1) p E
  rw [←this];exact hm
 ·have he:=hsub.subset he
  exact(h.cells e he).mono (hO _ (h.dom he).1) (aa.Sub.refl _)
 ·rw [hO k fun e=>by subst e;rw [h.off _ h.own.2.1]at hk;cases hk]
  exact h.sub k o hk
 ·by_cases e:k=m
  ·subst e
   obtain⟨es,cl,h1,_⟩:=hm;exact⟨_,h1⟩
  ·rw [hO k e];exact h.live k hk
theorem di.sit{A B A':aa}{O:Nat→Prop}{t:Nat}{T:aT}{m s:Nat}{E:List (ByteArray×Nat×bn)}(h:di A B O t T m s E){l:List (Int×bb)}
  (hO:∀k,k≠s→A'.blk k=A.blk k) (hm:bX A' s (jh eP l)) (hl:(l.map (·.1)).Nodup):di A' B O t ⟨T.nodes,l⟩ m s E:=by
 have htm:=h.vg;refine⟨h.nodes,h.top.sub fun o ho=>(by rw [hO t htm.2];exact ho),h.nmap.sub fun o ho=>(by rw [hO m h.ne.1];exact ho),hm,fun e he=>(h.cells e he).mono (hO _ (h.dom he).2) (aa.Sub.refl _),h.keys,h.ptrs,hl,fun k o hk=> ?_,h.own,h.off,fun k hk=> ?_,h.ne⟩
 ·rw [hO k fun e=>by subst e;rw [h.off _ h.own.2.2.1]at hk;cases hk]
  exact h.sub k o hk
 ·by_cases e:k=s
  ·subst e
   obtain⟨es,cl,h1,_⟩:=hm;exact⟨_,h1⟩
  ·rw [hO k e];exact h.live k hk
theorem ei{p:Int}{x:bb}{l:List (Int×bb)}(h:(l.map (·.1)).Nodup):((cH p x l).map (·.1)).Nodup:=by
 cases hp:aM p l with
 |none=>
  rw [mf hp,List.map_append,List.nodup_append];refine⟨h,by simp,fun a ha b hb e=> ?_⟩;simp only [List.map_cons,List.map_nil,List.mem_singleton]at hb;subst hb;subst e;exact iz (by simp) hp ha
 |some y=>
  obtain⟨a,b,h1,_,h2,_,_⟩:=iJ (BM p) hp;rw [h2];rw [h1]at h;simpa using h
end
end Go.Sx
namespace Go.Proofs.YtphigpccfbfnoaaGreatDoor
open Go.Sx Go.RowKit
noncomputable section
open Classical
def iE:aL:=⟨List UInt8×List UInt8,fun g vs A=>∃x y,vs= [x,y]∧SlB A x g.1∧SlB A y g.2,fun g _ A v A'=>A'=A∧v= .bool (decide (g.1=g.2))⟩
theorem j8:FOk Tryz.prog 34 iE:=by
 refine aS mixed fun⟨ls,bs⟩ vs A hp=> ?_
 simp only [iE]at hp;obtain⟨x,y,rfl,⟨⟨ao,c,rfl,hc,_,ha1,ha2,ha3⟩,hxl⟩,⟨bo,d,rfl,hd,_,hb1,hb2,hb3⟩,hyl⟩:=hp;refine⟨noC,da Tryz.prog noC noL 60 [(34,0)],60,aj _,aH mixed (aj _) (ak _) _ _,fun blk os out tape D hD=> ?_⟩;conv=>lhs;whnf
 refine aQ (fun hb=> ?_) (fun hb=> ?_)<;>(conv=>lhs;whnf)
 ·refine(hD _).2 ⟨rfl,?_⟩
  have:ls≠bs:=fun e=>by subst e;simp at hb
  simp [this]
 ·have hlen:ls.length=bs.length:=by
    have:(ls.length:Int)=bs.length:=by simpa using hb
    omega
  refine(hD _).2 ⟨cnt A 5 [0,1] [] ls.length fun k=>ls.take k=bs.take k,⟨(0:Nat),⟨Nat.zero_le _,rfl⟩,⟨rfl,trivial⟩,trivial,rfl⟩,fun(k:Nat) hk=>⟨⟨trivial,trivial⟩,trivial,?_⟩⟩;simp only [cnt]at hk;conv=>lhs;whnf
  refine ab (fun hlt=> ?_) (fun hb=> ?_)<;>(conv=>lhs;whnf)
  ·have hlt:k<ls.length:=by omega
   obtain⟨g,o,rfl,hra⟩:=Sl.at_ hc ha1 ha2 ha3 (by omega);obtain⟨g',o',rfl,hrb⟩:=Sl.at_ hd hb1 hb2 hb3 (by omega);conv=>lhs;whnf
   refine fN (fun _ _=> ?_) (fun h=>by omega);conv=>lhs;whnf
   refine af (qU hra k hlt rfl) ?_;conv=>lhs;whnf
   refine fN (fun _ _=> ?_) (fun h=>by omega);conv=>lhs;whnf
   refine af (qU hrb k (by omega) rfl) ?_;conv=>lhs;whnf
   refine aQ (fun hb=> ?_) (fun hb=> ?_)<;>(conv=>lhs;whnf)
   ·refine(hD _).2 ⟨rfl,?_⟩
    have:ls≠bs:=fun e=>by subst e;simp at hb
    simp [this]
   ·have he:ls[k]=bs[k]:=by
      have:(ls[k].toNat:Int)=bs[k].toNat:=by simpa using hb
      exact UInt8.toNat_inj.1 (by omega)
    refine(hD _).2 ⟨(k+1:Nat),⟨⟨by omega,?_⟩,⟨av (by omega),trivial⟩,trivial,rfl⟩,?_,⟨rfl,rfl,trivial⟩,trivial⟩
    ·show ls.take (k+1)=bs.take (k+1)
     rw [List.take_succ_eq_append_getElem hlt,List.take_succ_eq_append_getElem (by omega),hk.2,he]
    ·show ls.length-(k+1)<ls.length-k
     omega
  ·refine(hD _).2 ⟨rfl,?_⟩
   have h1:k=ls.length:=by omega
   have:ls=bs:=by
    have:=hk.2;rw [h1,List.take_length,hlen,List.take_length]at this;exact this
   simp [this]
def cj(l:List UInt8):Value:= .string ⟨l.toArray⟩
def SlT(A:aa)(v:Value)(l:List (List UInt8)):Prop:=Sl A 1 l.length v (l.map cj)∧l.length≤140737488351232
theorem nu{A:aa}{g o n:Nat}{ls:List (List UInt8)}(h:A.rd g o (n*1)=some (ls.map cj))(k:Nat)(hk:k<ls.length)(hn:n=ls.length):A.rd g (o+k*1) 1=some [.string ⟨ls[k].toArray⟩]:=by
 rw [cU h (i:=k*1) (m:=1) (by omega)];congr 1;refine List.ext_getElem? fun i=> ?_
 cases i with
 |zero=>simp [hk,cj]
 |succ i=>
  simp;omega
def j6:aL:=⟨List (List UInt8)×List (List UInt8),fun g vs A=>∃x y,vs= [x,y]∧SlT A x g.1∧SlT A y g.2,fun g _ A v A'=>A'=A∧v= .bool (decide (g.1=g.2))⟩
theorem nE:FOk Tryz.prog 35 j6:=by
 refine aS mixed fun⟨ls,bs⟩ vs A hp=> ?_
 simp only [j6]at hp;obtain⟨x,y,rfl,⟨⟨ao,c,rfl,hc,_,ha1,ha2,ha3⟩,hxl⟩,⟨bo,d,rfl,hd,_,hb1,hb2,hb3⟩,hyl⟩:=hp;refine⟨noC,da Tryz.prog noC noL 60 [(35,0)],60,aj _,aH mixed (aj _) (ak _) _ _,fun blk os out tape D hD=> ?_⟩;conv=>lhs;whnf
 refine aQ (fun hb=> ?_) (fun hb=> ?_)<;>(conv=>lhs;whnf)
 ·refine(hD _).2 ⟨rfl,?_⟩
  have:ls≠bs:=fun e=>by subst e;simp at hb
  simp [this]
 ·have hlen:ls.length=bs.length:=by
    have:(ls.length:Int)=bs.length:=by simpa using hb
    omega
  refine(hD _).2 ⟨cnt A 5 [0,1] [] ls.length fun k=>ls.take k=bs.take k,⟨(0:Nat),⟨Nat.zero_le _,rfl⟩,⟨rfl,trivial⟩,trivial,rfl⟩,fun(k:Nat) hk=>⟨⟨trivial,trivial⟩,trivial,?_⟩⟩;simp only [cnt]at hk;conv=>lhs;whnf
  refine ab (fun hlt=> ?_) (fun hb=> ?_)<;>(conv=>lhs;whnf)
  ·have hlt:k<ls.length:=by omega
   obtain⟨g,o,rfl,hra⟩:=Sl.at_ hc ha1 ha2 ha3 (by omega);obtain⟨g',o',rfl,hrb⟩:=Sl.at_ hd hb1 hb2 hb3 (by omega);conv=>lhs;whnf
   refine fN (fun _ _=> ?_) (fun h=>by omega);conv=>lhs;whnf
   refine af (nu hra k hlt rfl) ?_;conv=>lhs;whnf
   refine fN (fun _ _=> ?_) (fun h=>by omega);conv=>lhs;whnf
   refine af (nu hrb k (by omega) rfl) ?_;conv=>lhs;whnf
   refine aQ (fun hb=> ?_) (fun hb=> ?_)<;>(conv=>lhs;whnf)
   ·refine(hD _).2 ⟨rfl,?_⟩
    have:ls≠bs:=fun e=>by
     subst e;have h9:eW ls[k] ls[k]=true:=bh.2 rfl;simp [h9]at hb
    simp [this]
   ·have he:ls[k]=bs[k]:=by
      have h8:eW ls[k] bs[k]=true:=by simpa using hb
      exact bh.1 h8
    refine(hD _).2 ⟨(k+1:Nat),⟨⟨by omega,?_⟩,⟨av (by omega),trivial⟩,trivial,rfl⟩,?_,⟨rfl,rfl,trivial⟩,trivial⟩
    ·show ls.take (k+1)=bs.take (k+1)
     rw [List.take_succ_eq_append_getElem hlt,List.take_succ_eq_append_getElem (by omega),hk.2,he]
    ·show ls.length-(k+1)<ls.length-k
     omega
  ·refine(hD _).2 ⟨rfl,?_⟩
   have h1:k=ls.length:=by omega
   have:ls=bs:=by
    have:=hk.2;rw [h1,List.take_length,hlen,List.take_length]at this;exact this
   simp [this]
end
end Go.Proofs.YtphigpccfbfnoaaGreatDoor
namespace Go.Sx
noncomputable section
structure bT where
 id:Int
 role:Int
 weight:Int
 group:Int
def bT.cells(m:bT):List Value:= [.int .i64 m.id,.int .u8 m.role,.int .i64 m.weight,.int .i64 m.group]
def bD(l:List bT):List Value:=(l.map bT.cells).flatten
theorem mF(l:List bT):∀r∈l.map bT.cells,r.length=4:=fun r hr=>by
 obtain⟨m,_,rfl⟩:=List.mem_map.1 hr;rfl
def kD(B:aa)(v:Value)(l:List bT):Prop:=Sl B 4 l.length v (bD l)∧l.length*32≤140737488351232
theorem kD.sub{A B:aa}(h:B.Sub A){v:Value}{l:List bT}(hs:kD B v l):kD A v l:=⟨hs.1.sub h,hs.2⟩
end
end Go.Sx
namespace Go.Proofs.YtphigpccfbfnoaaGreatDoor
open Go.Sx Go.RowKit
noncomputable section
open Classical
def eQ:aL:=⟨List bT×List bT,fun g vs A=>∃x y,vs= [x,y]∧kD A x g.1∧kD A y g.2,fun g _ A v A'=>A'=A∧v= .bool (decide (g.1=g.2))⟩
theorem qO{A:aa}{g o n:Nat}{l:List bT}(h:A.rd g o (n*4)=some (bD l))(k:Nat)(hk:k<l.length)(hn:n=l.length):A.rd g (o+k*4) 4=some [.int .i64 l[k].id,.int .u8 l[k].role,.int .i64 l[k].weight,.int .i64 l[k].group]:=by
 have:=lU (rows:=l.map bT.cells) h (mF l) k (by simpa using hk) (by simpa using hn);simpa [bT.cells]using this
theorem fP:FOk Tryz.prog 70 eQ:=by
 refine aS mixed fun⟨ls,bs⟩ vs A hp=> ?_
 simp only [eQ]at hp;obtain⟨x,y,rfl,⟨⟨ao,c,rfl,hc,_,ha1,ha2,ha3⟩,hxl⟩,⟨bo,d,rfl,hd,_,hb1,hb2,hb3⟩,hyl⟩:=hp;refine⟨noC,da Tryz.prog noC noL 60 [(70,0)],60,aj _,aH mixed (aj _) (ak _) _ _,fun blk os out tape D hD=> ?_⟩;conv=>lhs;whnf
 refine aQ (fun hb=> ?_) (fun hb=> ?_)<;>(conv=>lhs;whnf)
 ·refine(hD _).2 ⟨rfl,?_⟩
  have:ls≠bs:=fun e=>by subst e;simp at hb
  simp [this]
 ·have hlen:ls.length=bs.length:=by
    have:(ls.length:Int)=bs.length:=by simpa using hb
    omega
  refine(hD _).2 ⟨cnt A 5 [0,1] [] ls.length fun k=>ls.take k=bs.take k,⟨(0:Nat),⟨Nat.zero_le _,rfl⟩,⟨rfl,trivial⟩,trivial,rfl⟩,fun(k:Nat) hk=>⟨⟨trivial,trivial⟩,trivial,?_⟩⟩;simp only [cnt]at hk;conv=>lhs;whnf
  refine ab (fun hlt=> ?_) (fun hb=> ?_)<;>(conv=>lhs;whnf)
  ·have hlt:k<ls.length:=by omega
   obtain⟨g,o,rfl,hra⟩:=Sl.at_ hc ha1 ha2 ha3 (by omega);obtain⟨g',o',rfl,hrb⟩:=Sl.at_ hd hb1 hb2 hb3 (by omega);conv=>lhs;whnf
   refine fN (fun _ _=> ?_) (fun h=>by omega);conv=>lhs;whnf
   refine af (qO hra k hlt rfl) ?_;conv=>lhs;whnf
   refine fN (fun _ _=> ?_) (fun h=>by omega);conv=>lhs;whnf
   refine af (qO hrb k (by omega) rfl) ?_;conv=>lhs;whnf
   refine au hD (by kernel_rfl) ?_;conv=>lhs;whnf
   refine aQ (fun hb=> ?_) (fun hb=> ?_)<;>(conv=>lhs;whnf)
   ·refine(hD _).2 ⟨rfl,?_⟩
    have:ls≠bs:=fun e=>by subst e;simp at hb
    simp [this]
   ·have he:ls[k]=bs[k]:=by
      simp only [Bool.not_eq_false',Bool.and_eq_true,decide_eq_true_eq,Bool.and_true]at hb;obtain⟨h1,h2,h3,h4⟩:=hb
      cases hl:ls[k];cases hr:bs[k]
      simp only [hl,hr]at h1 h2 h3 h4;subst h1 h2 h3 h4;rfl
    refine(hD _).2 ⟨(k+1:Nat),⟨⟨by omega,?_⟩,⟨av (by omega),trivial⟩,trivial,rfl⟩,?_,⟨rfl,rfl,trivial⟩,trivial⟩
    ·show ls.take (k+1)=bs.take (k+1)
     rw [List.take_succ_eq_append_getElem hlt,List.take_succ_eq_append_getElem (by omega),hk.2,he]
    ·show ls.length-(k+1)<ls.length-k
     omega
  ·refine(hD _).2 ⟨rfl,?_⟩
   have h1:k=ls.length:=by omega
   have:ls=bs:=by
    have:=hk.2;rw [h1,List.take_length,hlen,List.take_length]at this;exact this
   simp [this]
structure dj where
 kind:Int
 xid:Int
 path:ByteArray
 st:ec
def dj.cells(p:dj):List Value:= [.int .u8 p.kind,.int .i64 p.xid,.int .i64 0,.int .i64 0,.int .i64 0,.int .i64 0,.string p.path,.slice none 0 0,.int .i64 p.st.czxid,.int .i64 p.st.mzxid,.int .i64 p.st.pzxid,.int .i64 p.st.ctime,.int .i64 p.st.mtime,.int .i64 p.st.ver,.int .i64 p.st.cver,.int .i64 p.st.owner,.int .i64 p.st.len,.int .i64 p.st.kids,.slice none 0 0,.int .i64 0,.slice none 0 0,.slice none 0 0]
structure ek where
 kind:Int
 xid:Int
 zxid:Int
 err:Int
 ses:Int
 tmo:Int
 path:ByteArray
 st:ec
 cfg:Int
 mem:List bT
 parts:List dj
def ek.cells(r:ek)(vm vp:Value):List Value:= [.int .u8 r.kind,.int .i64 r.xid,.int .i64 r.zxid,.int .i64 r.err,.int .i64 r.ses,.int .i64 r.tmo,.string r.path,.slice none 0 0,.int .i64 r.st.czxid,.int .i64 r.st.mzxid,.int .i64 r.st.pzxid,.int .i64 r.st.ctime,.int .i64 r.st.mtime,.int .i64 r.st.ver,.int .i64 r.st.cver,.int .i64 r.st.owner,.int .i64 r.st.len,.int .i64 r.st.kids,.slice none 0 0,.int .i64 r.cfg,vm,vp]
def tZ(A:aa)(r:ek)(cs:List Value):Prop:=∃vm vp,cs=r.cells vm vp∧kD A vm r.mem∧Sl A 22 r.parts.length vp (r.parts.flatMap dj.cells)∧r.parts.length≤1000000
theorem vJ{b A B:Bool}(h:b=true)(hA:A=true):(bif b then A else B)=true:=by
 rw [h];exact hA
def oO:aL:=⟨dj,fun p vs _=>vs= [.agg p.cells.toArray,.agg p.cells.toArray],fun _ _ A v A'=>A'=A∧v= .bool true⟩
theorem qb:FOk Tryz.prog 10 oO:=by
 refine aS mixed fun⟨kind,xid,path,⟨q1,q2,q3,q4,q5,q6,q7,q8,q9,q10⟩⟩ vs A hp=> ?_
 obtain rfl:vs= [.agg (dj.cells ⟨kind,xid,path,⟨q1,q2,q3,q4,q5,q6,q7,q8,q9,q10⟩⟩).toArray,.agg (dj.cells ⟨kind,xid,path,⟨q1,q2,q3,q4,q5,q6,q7,q8,q9,q10⟩⟩).toArray]:=hp
 have hC:aF Tryz.prog (bu [aE 34 iE,aE 35 j6,aE 70 eQ] noC):=az (aj _) (fun x hx=>by
  simp only [List.mem_cons,List.not_mem_nil,or_false]at hx;rcases hx with rfl|rfl|rfl
  ·exact ai j8
  ·exact ai nE
  ·exact ai fP)
 refine⟨_,noL,60,hC,ak _,fun blk os' out tape D hD=> ?_⟩;have hnB:∀A:aa,SlB A (.slice none 0 0) []:=fun A=>⟨Sl.nil _ _,by simp⟩
 have hnT:∀A:aa,SlT A (.slice none 0 0) []:=fun A=>⟨Sl.nil _ _,by simp⟩
 have hnM:∀A:aa,kD A (.slice none 0 0) []:=fun A=>⟨Sl.nil _ _,by simp⟩
 conv=>lhs;whnf
 repeat(first|refine ab (fun _=> ?_) (fun h=>absurd rfl h)|refine vJ (bh.2 rfl) ?_|refine au hD rfl ?_
        conv=>lhs;whnf)
 refine(hD _).2 ⟨(([]:List UInt8),([]:List UInt8)),⟨_,_,rfl,hnB _,hnB _⟩,fun v A1 hq=> ?_⟩;obtain⟨h9,hv⟩:A1=A∧v= .bool (decide (([]:List UInt8)= [])):=hq;rw [decide_eq_true rfl]at hv;subst h9;subst hv
 conv=>lhs;whnf
 repeat(first|refine ab (fun _=> ?_) (fun h=>absurd rfl h)|refine vJ (bh.2 rfl) ?_|refine au hD (by kernel_rfl) ?_
        conv=>lhs;whnf)
 refine aQ (fun _=> ?_) (fun hb=>absurd hb (by simp));conv=>lhs;whnf
 repeat(first|refine ab (fun _=> ?_) (fun h=>absurd rfl h)|refine au hD rfl ?_
        conv=>lhs;whnf)
 refine(hD _).2 ⟨(([]:List (List UInt8)),([]:List (List UInt8))),⟨_,_,rfl,hnT _,hnT _⟩,fun v A2 hq=> ?_⟩;obtain⟨h9,hv⟩:A2=A1∧v= .bool (decide (([]:List (List UInt8))= [])):=hq;rw [decide_eq_true rfl]at hv;subst h9;subst hv
 conv=>lhs;whnf
 repeat(first|refine ab (fun _=> ?_) (fun h=>absurd rfl h)|refine au hD rfl ?_
        conv=>lhs;whnf)
 refine(hD _).2 ⟨(([]:List bT),([]:List bT)),⟨_,_,rfl,hnM _,hnM _⟩,fun v A3 hq=> ?_⟩;obtain⟨h9,hv⟩:A3=A2∧v= .bool (decide (([]:List bT)= [])):=hq;rw [decide_eq_true rfl]at hv;subst h9;subst hv
 conv=>lhs;whnf
 repeat(first|refine ab (fun _=> ?_) (fun h=>absurd rfl h)|refine au hD rfl ?_
        conv=>lhs;whnf)
 exact(hD _).2 ⟨rfl,rfl⟩
def nF:aL:=⟨List dj,fun ps vs A=>∃x y,vs= [x,y]∧Sl A 22 ps.length x (ps.flatMap dj.cells)∧Sl A 22 ps.length y (ps.flatMap dj.cells)∧ps.length≤1000000,fun _ _ A v A'=>A'=A∧v= .bool true⟩
def sryInv(A:aa)(n:Nat):dE:= { γ:=Nat,G:=fun k=>k≤n,keepS:= [0,1],keepB:= [],sl:=fun k=> [(5,.v (.int .i64 k))],bl:=fun _=> [],ar:=fun _=>A,mu:=fun k=>n-k }
theorem vK{A:aa}{g o n:Nat}{l:List dj}(h:A.rd g o (n*22)=some (l.flatMap dj.cells))(i:Nat)(hi:i<l.length)(hn:n=l.length):A.rd g (o+i*22) 22=some l[i].cells:=by
 have e:l.flatMap dj.cells=(l.map dj.cells).flatten:=(List.flatMap_def).symm▸rfl;rw [e]at h
 have:=lU h (fun r hr=>by
  obtain⟨p,_,rfl⟩:=List.mem_map.1 hr
  rfl) i (by simpa using hi) (by simpa using hn)
 rw [this,List.getElem_map]
theorem rq:FOk Tryz.prog 37 nF:=by
 refine aS mixed fun(ps:List dj) vs A hp=> ?_
 obtain⟨x,y,rfl,hx,hy,hlen⟩:∃x y,vs= [x,y]∧Sl A 22 ps.length x (ps.flatMap dj.cells)∧Sl A 22 ps.length y (ps.flatMap dj.cells)∧ps.length≤1000000:=hp;obtain⟨ax,cx,rfl,hcx, -,hx1,hx2,hx3⟩:=hx;obtain⟨ay,cy,rfl,hcy, -,hy1,hy2,hy3⟩:=hy
 have hrow:∀k (hk:k<ps.length),∃g1 o1 g2 o2,ax=some ⟨g1,o1,none⟩∧ay=some ⟨g2,o2,none⟩∧A.rd g1 (o1+k*22) 22=some ps[k].cells∧A.rd g2 (o2+k*22) 22=some ps[k].cells:=fun k hk=>by
  obtain⟨g1,o1,e1,hr1⟩:=Sl.at_ hcx hx1 hx2 hx3 (by omega);obtain⟨g2,o2,e2,hr2⟩:=Sl.at_ hcy hy1 hy2 hy3 (by omega);exact⟨g1,o1,g2,o2,e1,e2,vK hr1 k hk rfl,vK hr2 k hk rfl⟩
 have hC:aF Tryz.prog (bu [aE 10 oO] noC):=az (aj _) (fun x hx=>by
  simp only [List.mem_singleton]at hx
  subst hx;exact ai qb)
 refine⟨_,da Tryz.prog _ noL 60 [(37,0)],60,hC,aH mixed hC (ak _) _ _,fun blk os' out tape D hD=> ?_⟩;conv=>lhs;whnf
 repeat(first|refine cL (fun _=> ?_) (fun h=>absurd rfl h)|refine au hD rfl ?_
        conv=>lhs;whnf)
 refine(hD _).2 ⟨sryInv A ps.length,⟨(0:Nat),Nat.zero_le _,⟨rfl,trivial⟩,trivial,rfl⟩,fun(k:Nat) hk=>⟨⟨trivial,trivial⟩,trivial,?_⟩⟩;have hk:k≤ps.length:=hk;conv=>lhs;whnf
 refine ab (fun hlt=> ?_) (fun hlt=> ?_)
 ·have hlt:(k:Int)<(ps.length:Int):=hlt
  have hkl:k<ps.length:=by omega
  have k0:(0:Int)≤(k:Int)∧(k:Int)<(ps.length:Int):=by omega
  obtain⟨g1,o1,g2,o2,rfl,rfl,r1,r2⟩:=hrow k hkl;generalize ps[k]=p at r1 r2;conv=>lhs;whnf
  repeat(first|refine aq k0 ?_|refine af r1 ?_|refine af r2 ?_|refine au hD rfl ?_
         conv=>lhs;whnf)
  refine(hD _).2 ⟨p,rfl,fun v A3 hq=> ?_⟩;obtain⟨h9,hv⟩:A3=A∧v= .bool true:=hq;subst h9;subst hv
  conv=>lhs;whnf
  exact(hD _).2 ⟨(k+1:Nat),⟨hkl,⟨av (k:=k) (by omega),trivial⟩,trivial,rfl⟩,by show ps.length-(k+1)<ps.length-k;omega,⟨an rfl rfl,an rfl rfl,trivial⟩,trivial⟩
 ·conv=>lhs;whnf
  exact(hD _).2 ⟨rfl,rfl⟩
def rp:aL:=⟨ek,fun r vs A=>∃ca cb:List Value,vs= [.agg ca.toArray,.agg cb.toArray]∧tZ A r ca∧tZ A r cb,fun _ _ A v A'=>A'=A∧v= .bool true⟩
theorem vr:FOk Tryz.prog 10 rp:=by
 refine aS mixed fun⟨kind,xid,zxid,err,ses,tmo,path,⟨q1,q2,q3,q4,q5,q6,q7,q8,q9,q10⟩,cfg,mem,parts⟩ vs A hp=> ?_
 obtain⟨ca,cb,rfl,⟨vm,vp,rfl,hm1,hp1,hpl⟩,⟨wm,wp,rfl,hm2,hp2, -⟩⟩:∃ca cb:List Value,vs= [.agg ca.toArray,.agg cb.toArray]∧tZ A ⟨kind,xid,zxid,err,ses,tmo,path,⟨q1,q2,q3,q4,q5,q6,q7,q8,q9,q10⟩,cfg,mem,parts⟩ ca∧tZ A ⟨kind,xid,zxid,err,ses,tmo,path,⟨q1,q2,q3,q4,q5,q6,q7,q8,q9,q10⟩,cfg,mem,parts⟩ cb:=hp;obtain⟨am,cm,rfl⟩:=hm1.1.form;obtain⟨bm,dm,rfl⟩:=hm2.1.form;obtain⟨ap,cp,rfl⟩:=hp1.form;obtain⟨bp,dp,rfl⟩:=hp2.form
 have hC:aF Tryz.prog (bu [aE 34 iE,aE 35 j6,aE 70 eQ,aE 37 nF] noC):=az (aj _) (fun x hx=>by
  simp only [List.mem_cons,List.not_mem_nil,or_false]at hx;rcases hx with rfl|rfl|rfl|rfl
  ·exact ai j8
  ·exact ai nE
  ·exact ai fP
  ·exact ai rq)
 refine⟨_,noL,60,hC,ak _,fun blk os' out tape D hD=> ?_⟩;have hnB:∀A:aa,SlB A (.slice none 0 0) []:=fun A=>⟨Sl.nil _ _,by simp⟩
 have hnT:∀A:aa,SlT A (.slice none 0 0) []:=fun A=>⟨Sl.nil _ _,by simp⟩
 conv=>lhs;whnf
 repeat(first|refine ab (fun _=> ?_) (fun h=>absurd rfl h)|refine vJ (bh.2 rfl) ?_|refine au hD rfl ?_
        conv=>lhs;whnf)
 refine(hD _).2 ⟨(([]:List UInt8),([]:List UInt8)),⟨_,_,rfl,hnB _,hnB _⟩,fun v A1 hq=> ?_⟩;obtain⟨h9,hv⟩:A1=A∧v= .bool (decide (([]:List UInt8)= [])):=hq;rw [decide_eq_true rfl]at hv;subst h9;subst hv
 conv=>lhs;whnf
 repeat(first|refine ab (fun _=> ?_) (fun h=>absurd rfl h)|refine vJ (bh.2 rfl) ?_|refine au hD (by kernel_rfl) ?_
        conv=>lhs;whnf)
 refine aQ (fun _=> ?_) (fun hb=>absurd hb (by simp));conv=>lhs;whnf
 repeat(first|refine ab (fun _=> ?_) (fun h=>absurd rfl h)|refine au hD rfl ?_
        conv=>lhs;whnf)
 refine(hD _).2 ⟨(([]:List (List UInt8)),([]:List (List UInt8))),⟨_,_,rfl,hnT _,hnT _⟩,fun v A2 hq=> ?_⟩;obtain⟨h9,hv⟩:A2=A1∧v= .bool (decide (([]:List (List UInt8))= [])):=hq;rw [decide_eq_true rfl]at hv;subst h9;subst hv
 conv=>lhs;whnf
 repeat(first|refine ab (fun _=> ?_) (fun h=>absurd rfl h)|refine au hD rfl ?_
        conv=>lhs;whnf)
 refine(hD _).2 ⟨(mem,mem),⟨_,_,rfl,hm1,hm2⟩,fun v A3 hq=> ?_⟩;obtain⟨h9,hv⟩:A3=A2∧v= .bool (decide (mem=mem)):=hq;rw [decide_eq_true rfl]at hv;subst h9;subst hv
 conv=>lhs;whnf
 repeat(first|refine ab (fun _=> ?_) (fun h=>absurd rfl h)|refine au hD rfl ?_
        conv=>lhs;whnf)
 refine(hD _).2 ⟨parts,⟨_,_,rfl,hp1,hp2,hpl⟩,fun v A4 hq=> ?_⟩;obtain⟨h9,hv⟩:A4=A3∧v= .bool true:=hq;subst h9;subst hv
 conv=>lhs;whnf
 exact(hD _).2 ⟨rfl,rfl⟩
end
end Go.Proofs.YtphigpccfbfnoaaGreatDoor
