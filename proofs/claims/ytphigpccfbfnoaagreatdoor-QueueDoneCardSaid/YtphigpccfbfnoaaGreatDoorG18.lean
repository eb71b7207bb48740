/-
  Parts of the proof: ApD ApE PaA PaB PaC PaD
-/
import Derived.Test.YtphigpccfbfnoaaGreatDoorG17
import Derived.Test.YtphigpccfbfnoaaGreatDoorRows
import Derived.WalkKit
import Derived.Laws.Externs
import Derived.Lib.Bytealg
import Derived.Lib.CutLaws
import Derived.Lib.IndexMore
import Derived.Tactics
import Derived.Tactics2
import Derived.Shelf.RegionOpen
import Derived.Shelf.Abstract
import Derived.Shelf.RegionOpenPlain
import Derived.Laws.RangeString
import Derived.LoopTactic
import Derived.Laws.RangeAny
import Derived.RangeFuncNested
import Derived.RangeFuncBound
import Derived.RangeFuncCalls
import Derived.RangeFuncLeaves
import Derived.OwnWalkIn
import Derived.TacticsInMore
import Derived.LoopNIn
import Derived.LoopIn
import Derived.WalkSmall
set_option maxRecDepth 100000
set_option maxHeartbeats 0
namespace Go.Proofs.YtphigpccfbfnoaaGreatDoor
open Go.Sx Go.RowKit
noncomputable section
open Classical
def AW(l:LsD):Prop:=l.g=none∧l.n=0∧l.c=0∧∃base,l.v= .slice (aD base) 0 0
def il(l:LsD):Bool:=l.g.isSome
def dn(C A:aa)(b:Nat)(Y:Nat→List LsD)(n:Nat):Prop:=∃L X,ij C A b L X∧∀j,j<4→(X j).filter il=Y j∧(∀l∈X j,l.g=none→AW l)∧(X j).length≤n
def cT(Y:Nat→List LsD)(j:Nat)(l:LsD):Nat→List LsD:=upd Y j (Y j++if il l then [l]else [])
theorem dn.rV{C A:aa}{b j n:Nat}{L:Nat→LsD}{X Y:Nat→List LsD}{l:LsD}(hX:∀j,j<4→(X j).filter il=Y j∧(∀l∈X j,l.g=none→AW l)∧(X j).length≤n)(hl:l.g=none→AW l)(h:ij C A b L (upd X j (X j++ [l]))):dn C A b (cT Y j l) (n+1):=by
 refine⟨L,_,h,fun i hi=> ?_⟩;obtain⟨h1,h2,h3⟩:=hX i hi;unfold cT
 by_cases e:i=j
 ·subst e
  rw [jS,jS];refine⟨?_,fun x hx hg=> ?_,by rw [List.length_append,List.length_singleton];omega⟩
  ·rw [List.filter_append,h1]
   congr 1
   by_cases hs:il l=true
   ·rw [List.filter_cons_of_pos hs,if_pos hs,List.filter_nil]
   ·rw [List.filter_cons_of_neg hs,if_neg hs,List.filter_nil]
  ·rcases List.mem_append.1 hx with hx|hx
   ·exact h2 x hx hg
   ·rw [List.mem_singleton]at hx
    subst hx;exact hl hg
 ·rw [iZ e,iZ e]
  exact⟨h1,h2,by omega⟩
theorem dn.le{C A:aa}{b n m:Nat}{Y:Nat→List LsD}(h:dn C A b Y n)(hm:n≤m):dn C A b Y m:=by
 obtain⟨L,X,h1,h2⟩:=h;exact⟨L,X,h1,fun j hj=>⟨(h2 j hj).1,(h2 j hj).2.1,Nat.le_trans (h2 j hj).2.2 hm⟩⟩
theorem dn.sub{C A:aa}{b n:Nat}{Y:Nat→List LsD}(h:dn C A b Y n):C.Sub A:=by
 obtain⟨L,X,h1,h2⟩:=h;exact h1.sub
def nlL:LsD:=⟨.slice none 0 0,0,0,none⟩
theorem lZ:nlL.g=none→AW nlL:=fun _=>⟨rfl,rfl,rfl,none,rfl⟩
theorem mz(Y:Nat→List LsD)(j:Nat):cT Y j nlL=Y:=by
 funext i
 unfold cT
 by_cases e:i=j
 ·subst e
  rw [jS];show Y i++ []=Y i
  rw [List.append_nil]
 ·rw [iZ e]
structure BsG where
 C:aa
 b:Nat
 Y:Nat→List LsD
 n:Nat
 l:LsD
def rE(j:Nat):aL:=⟨BsG,fun g vs A=>vs= [.pointer (some ⟨g.b,0,none⟩),g.l.v]∧dn g.C A g.b g.Y g.n∧(∃base,g.l.v= .slice (aD base) g.l.n g.l.c)∧g.n≤1000000∧(g.l.g=none→AW g.l),
 fun g _ _ _ A'=>dn g.C A' g.b (cT g.Y j g.l) (g.n+1)⟩
theorem lV{j:Nat}(hj:j<4){f:FuncId}(h:FOk Tryz.prog f (qW j)):FOk Tryz.prog f (rE j):=by
 rintro⟨C,b,Y,n,l⟩ vs A w hA ⟨rfl,⟨L,X,hB,hX⟩,hl,hn,hnil⟩
 refine(h ⟨C,b,L,X,l⟩ _ A w hA ⟨rfl,hB,hl,Nat.le_trans (hX j hj).2.2 hn⟩).mono (fun v w' ⟨A',⟨L',hq⟩,hm⟩=>⟨A',dn.rV hX hnil hq,hm⟩) fun _ _ h=>h
def E9:aL:=⟨BsG,fun g vs A=>vs= [.pointer (some ⟨g.b,0,none⟩),g.l.v]∧dn g.C A g.b g.Y g.n∧g.n≤1000000∧g.l=nlL,
 fun g _ _ _ A'=>dn g.C A' g.b g.Y (g.n+1)⟩
structure OnG where
 C:aa
 b:Nat
 Y:Nat→List LsD
 n:Nat
 p:dj
def one0S:aL:=⟨OnG,fun g vs A=>vs= [.pointer (some ⟨g.b,0,none⟩),.agg g.p.cells.toArray]∧dn g.C A g.b g.Y g.n∧g.n≤999990,
 fun g _ _ _ A'=>dn g.C A' g.b g.Y (g.n+4)⟩
theorem E8:FOk Tryz.prog 61 E9:=by
 refine aS mixed fun⟨C,b,Y,n,l⟩ vs A hp=> ?_
 obtain⟨rfl,hBS,hn1,rfl⟩:vs= [.pointer (some ⟨b,0,none⟩),l.v]∧dn C A b Y n∧n≤1000000∧l=nlL:=hp;have hnl:=lZ;refine⟨noC,noL,60,aj _,ak _,fun blk os out tape D hD=> ?_⟩;obtain⟨L,X,hB,hX⟩:=hBS;obtain⟨base0,hbv, -⟩:=(hB.rows 3 (by omega)).app;have hn:=hB.len 3 (by omega);have hXl:=(hX 3 (by omega)).2.2
 have r1:A.rd b 12 1=some [.slice (aD base0) (L 3).n (L 3).c]:=by
  rw [←hbv];exact hB.top.rd (o:=12) (n:=1) (by show 12+1≤20;omega)
 conv=>lhs;whnf
 repeat(first|refine af r1 ?_|refine au hD rfl ?_
        conv=>lhs;whnf)
 refine(hD _).2 fun ge A8 hN8=> ?_
 have hN8:A.New A8 ge #[.slice none 0 0] 44:=hN8;have hB8:=hB.more hN8.sub;obtain⟨base,hbv2,hbase,hG,hcont⟩:=(hB8.rows 3 (by omega)).app
 have hbb:base0=base:=by
  rw [hbv]at hbv2;injection hbv2 with h1 _ _
  exact dJ h1
 subst hbb;have hPd:=hG 1 24 (by omega) (by omega) (by omega);have hrow9:A8.rd ge 0 (1*1)=some [.slice none 0 0]:=hN8.rd (o:=0) (n:=1*1) (by show 0+1*1≤1;omega);rcases hbase with rfl|⟨gx,ox,rfl⟩<;>(conv=>lhs;whnf)
 all_goals
  refine(hD _).2 ⟨_, [.slice none 0 0],hPd.rd,hrow9,rfl,fun v hv=>by
   rw [List.mem_singleton]at hv;rw [hv]
   rfl,?_,hPd.cap,rfl,hPd.none_,fun g' o' he' hle' _=>hPd.room 1 rfl g' o' he' hle',fun v9 A7 hAp=> ?_⟩
  ·show(L 3).n+1≤9223372036854775807
   omega
  ·obtain⟨L9,q1, -,q3, -,q5, -⟩:=hcont 1 [.slice none 0 0] v9 A7 rfl (by omega) hAp
   obtain⟨b9,hb9, -⟩:=q3.app;rw [q1]at hb9;subst hb9
   have hroom:A7.Room b 12 1:=by
    have h9:aG A7 b (oC (L 0).v (L 1).v (L 2).v (L 3).v):=hB8.top.sub fun ob hob=>q5 b ob hob fun e=>(hB8.r0 3 (by omega) b e).2 rfl
    exact h9.room (by show 12+1≤20;omega)
   conv=>lhs;whnf
   repeat(first|refine au hD rfl ?_
          conv=>lhs;whnf)
   refine(hD _).2 ⟨hroom,fun A6 hPut=> ?_⟩;have hPut:A7.Put A6 b 12 [.slice (aD b9) L9.n L9.c]:=hPut;obtain⟨L6,hB6⟩:=hB8.put (by omega) (l:=nlL) hcont rfl hAp 12 (fun _ _ _ _=>rfl) (by omega) hPut;have hBs:=dn.rV hX hnl hB6;clear hB hB8 hB6 hX hcont hG;rw [mz]at hBs;conv=>lhs;whnf
   exact(hD _).2 hBs
theorem one0_ok:FOk Tryz.prog 98 one0S:=by
 refine aS mixed fun⟨C,b,Y,n,⟨kind,xid,path,⟨q1,q2,q3,q4,q5,q6,q7,q8,q9,q10⟩⟩⟩ vs A hp=> ?_
 obtain⟨rfl,hBS,hn1⟩:vs= [.pointer (some ⟨b,0,none⟩),.agg (dj.cells ⟨kind,xid,path,⟨q1,q2,q3,q4,q5,q6,q7,q8,q9,q10⟩⟩).toArray]∧dn C A b Y n∧n≤999990:=hp
 have hC:aF Tryz.prog (bu [aE 135 (rE 1),aE 136 (rE 0),aE 175 (rE 2),aE 61 E9] noC):=az (aj _) (fun x hx=>by
  simp only [List.mem_cons,List.not_mem_nil,or_false]at hx;rcases hx with rfl|rfl|rfl|rfl
  ·exact ai (lV (by omega) qh)
  ·exact ai (lV (by omega) qg)
  ·exact ai (lV (by omega) mE)
  ·exact ai E8)
 refine⟨_,noL,60,hC,ak _,fun blk os out tape D hD=> ?_⟩;conv=>lhs;whnf
 repeat(first|refine au hD rfl ?_
        conv=>lhs;whnf)
 refine(hD _).2 ⟨(⟨C,b,Y,n+0,nlL⟩:BsG),⟨rfl,hBS,⟨none,rfl⟩,by show n+0≤1000000;omega,lZ⟩,fun v A1 hq=> ?_⟩;have hBS:dn C A1 b (cT Y 1 nlL) (n+0+1):=hq;rw [mz]at hBS;conv=>lhs;whnf
 repeat(first|refine au hD rfl ?_
        conv=>lhs;whnf)
 refine(hD _).2 ⟨(⟨C,b,Y,n+1,nlL⟩:BsG),⟨rfl,hBS,⟨none,rfl⟩,by show n+1≤1000000;omega,lZ⟩,fun v A2 hq=> ?_⟩;have hBS:dn C A2 b (cT Y 0 nlL) (n+1+1):=hq;rw [mz]at hBS;conv=>lhs;whnf
 repeat(first|refine au hD rfl ?_
        conv=>lhs;whnf)
 refine(hD _).2 ⟨(⟨C,b,Y,n+2,nlL⟩:BsG),⟨rfl,hBS,⟨none,rfl⟩,by show n+2≤1000000;omega,lZ⟩,fun v A3 hq=> ?_⟩;have hBS:dn C A3 b (cT Y 2 nlL) (n+2+1):=hq;rw [mz]at hBS;conv=>lhs;whnf
 repeat(first|refine au hD rfl ?_
        conv=>lhs;whnf)
 refine(hD _).2 ⟨(⟨C,b,Y,n+3,nlL⟩:BsG),⟨rfl,hBS,by show n+3≤1000000;omega,rfl⟩,fun v A4 hq=> ?_⟩;have hBS:dn C A4 b Y (n+3+1):=hq;conv=>lhs;whnf
 repeat(first|refine au hD rfl ?_
        conv=>lhs;whnf)
 exact(hD _).2 hBS
structure RowG where
 C:aa
 b:Nat
 Y:Nat→List LsD
 n:Nat
 l:LsD
 ps:List dj
def put1S:aL:=⟨RowG,fun g vs A=>vs= [.pointer (some ⟨g.b,0,none⟩),g.l.v]∧dn g.C A g.b g.Y g.n∧g.n+4*g.ps.length≤999900∧LsR g.C 22 46 g.l (g.ps.flatMap dj.cells)∧g.ps.length=g.l.n,
 fun g _ _ _ A'=>dn g.C A' g.b (cT g.Y 3 g.l) (g.n+1+4*g.ps.length)⟩
theorem LsR.nil_{A:aa}{es:Nat}{e:TypeId}{L:LsD}{cs:List Value}(h:LsR A es e L cs):L.g=none→AW L:=fun hg=>by
 rcases h with⟨h1,h2,h3,_,h4⟩|⟨g,h1,_⟩
 ·exact⟨h1,h2,h3,h4⟩
 ·rw [hg]at h1;cases h1
theorem rows22{C:aa}{e:TypeId}{l:LsD}{ps:List dj}(h:LsR C 22 e l (ps.flatMap dj.cells))(hn:ps.length=l.n):(l.n=0∧∃base,l.v= .slice (aD base) 0 l.c)∨(0<l.n∧∃g,l.v= .slice (some ⟨g,0,none⟩) l.n l.c∧∀i (hi:i<ps.length),C.rd g (0+i*22) 22=some ps[i].cells):=by
 rcases h with⟨h1,h2,h3,_,base,h4⟩|⟨g,h1,h2,h3,h4⟩
 ·exact .inl ⟨h2,base,by rw [h4,h3]⟩
 ·by_cases h0:l.n=0
  ·exact .inl ⟨h0,some (g,0),by rw [h2,h0];rfl⟩
  ·refine .inr ⟨by omega,g,h2,fun i hi=> ?_⟩
   exact vK (h4.rd) i hi hn.symm
def rpInv(C:aa)(b:Nat)(Y:Nat→List LsD)(n cnt:Nat):dE:= { γ:=FaG,G:=fun s=>s.k≤cnt∧dn C s.A b Y (n+4*s.k),keepS:= [0,1],keepB:= [],sl:=fun s=> [(4,.v (.int .i64 s.k))],bl:=fun _=> [],ar:=fun s=>s.A,mu:=fun s=>cnt-s.k }
theorem put1_ok:FOk Tryz.prog 61 put1S:=by
 refine aS mixed fun⟨C,b,Y,n,⟨lv,ln,lc,lg⟩,ps⟩ vs A hp=> ?_
 obtain⟨rfl,hBS,hn1,hls,hpn⟩:vs= [.pointer (some ⟨b,0,none⟩),lv]∧dn C A b Y n∧n+4*ps.length≤999900∧LsR C 22 46 ⟨lv,ln,lc,lg⟩ (ps.flatMap dj.cells)∧ps.length=ln:=hp;have hnl:=hls.nil_
 have hC:aF Tryz.prog (bu [aE 98 one0S] noC):=az (aj _) (fun x hx=>by
  simp only [List.mem_singleton]at hx
  subst hx;exact ai one0_ok)
 refine⟨_,da Tryz.prog _ noL 60 [(61,0)],60,hC,aH mixed hC (ak _) _ _,fun blk os out tape D hD=> ?_⟩;have hform:=rows22 hls hpn;dsimp only at hform;rcases hform with⟨hl0,lb,hlv⟩|⟨hl0,lb,hlv,hrd⟩
 ·subst hl0
  subst hlv;obtain⟨L,X,hB,hX⟩:=hBS;obtain⟨base0,hbv, -⟩:=(hB.rows 3 (by omega)).app;have hn:=hB.len 3 (by omega);have hXl:=(hX 3 (by omega)).2.2
  have r1:A.rd b 12 1=some [.slice (aD base0) (L 3).n (L 3).c]:=by
   rw [←hbv];exact hB.top.rd (o:=12) (n:=1) (by show 12+1≤20;omega)
  conv=>lhs;whnf
  repeat(first|refine af r1 ?_|refine au hD rfl ?_
         conv=>lhs;whnf)
  refine(hD _).2 fun ge A8 hN8=> ?_
  have hN8:A.New A8 ge #[.slice (aD lb) 0 lc] 44:=hN8;have hB8:=hB.more hN8.sub;obtain⟨base,hbv2,hbase,hG,hcont⟩:=(hB8.rows 3 (by omega)).app
  have hbb:base0=base:=by
   rw [hbv]at hbv2;injection hbv2 with h1 _ _
   exact dJ h1
  subst hbb;have hPd:=hG 1 24 (by omega) (by omega) (by omega);have hrow9:A8.rd ge 0 (1*1)=some [.slice (aD lb) 0 lc]:=hN8.rd (o:=0) (n:=1*1) (by show 0+1*1≤1;omega);rcases hbase with rfl|⟨gx,ox,rfl⟩<;>(conv=>lhs;whnf)
  all_goals
   refine(hD _).2 ⟨_, [.slice (aD lb) 0 lc],hPd.rd,hrow9,rfl,fun v hv=>by
    rw [List.mem_singleton]at hv;rw [hv]
    rfl,?_,hPd.cap,rfl,hPd.none_,fun g' o' he' hle' _=>hPd.room 1 rfl g' o' he' hle',fun v9 A7 hAp=> ?_⟩
   ·show(L 3).n+1≤9223372036854775807
    omega
   ·obtain⟨L9,q1, -,q3, -,q5, -⟩:=hcont 1 [.slice (aD lb) 0 lc] v9 A7 rfl (by omega) hAp
    obtain⟨b9,hb9, -⟩:=q3.app;rw [q1]at hb9;subst hb9
    have hroom:A7.Room b 12 1:=by
     have h9:aG A7 b (oC (L 0).v (L 1).v (L 2).v (L 3).v):=hB8.top.sub fun ob hob=>q5 b ob hob fun e=>(hB8.r0 3 (by omega) b e).2 rfl
     exact h9.room (by show 12+1≤20;omega)
    conv=>lhs;whnf
    repeat(first|refine au hD rfl ?_
           conv=>lhs;whnf)
    refine(hD _).2 ⟨hroom,fun A6 hPut=> ?_⟩;have hPut:A7.Put A6 b 12 [.slice (aD b9) L9.n L9.c]:=hPut;obtain⟨L6,hB6⟩:=hB8.put (by omega) (l:=⟨.slice (aD lb) 0 lc,0,lc,lg⟩) hcont rfl hAp 12 (fun _ _ _ _=>rfl) (by omega) hPut;have hBs:=dn.rV hX hnl hB6;clear hB hB8 hB6 hX hcont hG;conv=>lhs;whnf
    refine(hD _).2 ⟨rpInv C b (cT Y 3 ⟨.slice (aD lb) 0 lc,0,lc,lg⟩) (n+1) 0,⟨(⟨0,A6⟩:FaG),⟨Nat.zero_le _,hBs⟩,⟨rfl,trivial⟩,trivial,rfl⟩,fun(s:FaG) hG=>⟨⟨trivial,trivial⟩,trivial,?_⟩⟩;obtain⟨k,Ak⟩:=s;obtain⟨hk,hBk⟩:k≤0∧dn C Ak b (cT Y 3 ⟨.slice (aD lb) 0 lc,0,lc,lg⟩) (n+1+4*k):=hG;have hk0:k=0:=by omega
    subst hk0;have hend:dn C Ak b (cT Y 3 ⟨.slice (aD lb) 0 lc,0,lc,lg⟩) (n+1+4*ps.length):=hBk.le (by omega);conv=>lhs;whnf
    exact(hD _).2 hend
 ·subst hlv
  subst hpn;obtain⟨L,X,hB,hX⟩:=hBS;obtain⟨base0,hbv, -⟩:=(hB.rows 3 (by omega)).app;have hn:=hB.len 3 (by omega);have hXl:=(hX 3 (by omega)).2.2
  have r1:A.rd b 12 1=some [.slice (aD base0) (L 3).n (L 3).c]:=by
   rw [←hbv];exact hB.top.rd (o:=12) (n:=1) (by show 12+1≤20;omega)
  conv=>lhs;whnf
  repeat(first|refine af r1 ?_|refine au hD rfl ?_
         conv=>lhs;whnf)
  refine(hD _).2 fun ge A8 hN8=> ?_
  have hN8:A.New A8 ge #[.slice (some ⟨lb,0,none⟩) ps.length lc] 44:=hN8;have hB8:=hB.more hN8.sub;obtain⟨base,hbv2,hbase,hG,hcont⟩:=(hB8.rows 3 (by omega)).app
  have hbb:base0=base:=by
   rw [hbv]at hbv2;injection hbv2 with h1 _ _
   exact dJ h1
  subst hbb;have hPd:=hG 1 24 (by omega) (by omega) (by omega);have hrow9:A8.rd ge 0 (1*1)=some [.slice (some ⟨lb,0,none⟩) ps.length lc]:=hN8.rd (o:=0) (n:=1*1) (by show 0+1*1≤1;omega);rcases hbase with rfl|⟨gx,ox,rfl⟩<;>(conv=>lhs;whnf)
  all_goals
   refine(hD _).2 ⟨_, [.slice (some ⟨lb,0,none⟩) ps.length lc],hPd.rd,hrow9,rfl,fun v hv=>by
    rw [List.mem_singleton]at hv;rw [hv]
    rfl,?_,hPd.cap,rfl,hPd.none_,fun g' o' he' hle' _=>hPd.room 1 rfl g' o' he' hle',fun v9 A7 hAp=> ?_⟩
   ·show(L 3).n+1≤9223372036854775807
    omega
   ·obtain⟨L9,q1, -,q3, -,q5, -⟩:=hcont 1 [.slice (some ⟨lb,0,none⟩) ps.length lc] v9 A7 rfl (by omega) hAp
    obtain⟨b9,hb9, -⟩:=q3.app;rw [q1]at hb9;subst hb9
    have hroom:A7.Room b 12 1:=by
     have h9:aG A7 b (oC (L 0).v (L 1).v (L 2).v (L 3).v):=hB8.top.sub fun ob hob=>q5 b ob hob fun e=>(hB8.r0 3 (by omega) b e).2 rfl
     exact h9.room (by show 12+1≤20;omega)
    conv=>lhs;whnf
    repeat(first|refine au hD rfl ?_
           conv=>lhs;whnf)
    refine(hD _).2 ⟨hroom,fun A6 hPut=> ?_⟩;have hPut:A7.Put A6 b 12 [.slice (aD b9) L9.n L9.c]:=hPut;obtain⟨L6,hB6⟩:=hB8.put (by omega) (l:=⟨.slice (some ⟨lb,0,none⟩) ps.length lc,ps.length,lc,lg⟩) hcont rfl hAp 12 (fun _ _ _ _=>rfl) (by omega) hPut;have hBs:=dn.rV hX hnl hB6;clear hB hB8 hB6 hX hcont hG;conv=>lhs;whnf
    refine(hD _).2 ⟨rpInv C b (cT Y 3 ⟨.slice (some ⟨lb,0,none⟩) ps.length lc,ps.length,lc,lg⟩) (n+1) ps.length,⟨(⟨0,A6⟩:FaG),⟨Nat.zero_le _,hBs⟩,⟨rfl,trivial⟩,trivial,rfl⟩,fun(s:FaG) hG=>⟨⟨trivial,trivial⟩,trivial,?_⟩⟩;clear hBs;obtain⟨k,Ak⟩:=s;obtain⟨hk,hBk⟩:k≤ps.length∧dn C Ak b (cT Y 3 ⟨.slice (some ⟨lb,0,none⟩) ps.length lc,ps.length,lc,lg⟩) (n+1+4*k):=hG;conv=>lhs;whnf
    refine ab (fun hlt=> ?_) (fun hlt=> ?_)
    ·have hlt:(k:Int)<(ps.length:Int):=hlt
     have hkl:k<ps.length:=by omega
     have k0:(0:Int)≤(k:Int)∧(k:Int)<(ps.length:Int):=by omega
     have rk:=aJ hBk.sub (hrd k hkl);generalize ps[k]=p at rk;conv=>lhs;whnf
     repeat(first|refine aq k0 ?_|refine af rk ?_|refine au hD rfl ?_
            conv=>lhs;whnf)
     refine(hD _).2 ⟨(⟨C,b,cT Y 3 ⟨.slice (some ⟨lb,0,none⟩) ps.length lc,ps.length,lc,lg⟩,n+1+4*k,p⟩:OnG),⟨rfl,hBk,by show n+1+4*k≤999990;omega⟩,fun v A5 hq=> ?_⟩;have hq:dn C A5 b (cT Y 3 ⟨.slice (some ⟨lb,0,none⟩) ps.length lc,ps.length,lc,lg⟩) (n+1+4*k+4):=hq;conv=>lhs;whnf
     exact(hD _).2 ⟨(⟨k+1,A5⟩:FaG),⟨⟨hkl,hq⟩,⟨av (k:=k) (by omega),trivial⟩,trivial,rfl⟩,by show ps.length-(k+1)<ps.length-k;omega,⟨an rfl rfl,an rfl rfl,trivial⟩,trivial⟩
    ·have hend:dn C Ak b (cT Y 3 ⟨.slice (some ⟨lb,0,none⟩) ps.length lc,ps.length,lc,lg⟩) (n+1+4*ps.length):=hBk.le (by omega)
     conv=>lhs;whnf
     exact(hD _).2 hend
structure WhG where
 C:aa
 b:Nat
 Y:Nat→List LsD
 n:Nat
 r:ek
 lm:LsD
 lp:LsD
def WhR(C:aa)(r:ek)(lm lp:LsD):Prop:=LsR C 4 97 lm (bD r.mem)∧LsR C 22 46 lp (r.parts.flatMap dj.cells)∧r.parts.length=lp.n
def one1S:aL:=⟨WhG,fun g vs A=>vs= [.pointer (some ⟨g.b,0,none⟩),.agg (g.r.cells g.lm.v g.lp.v).toArray]∧dn g.C A g.b g.Y g.n∧g.n+4*g.r.parts.length≤999800∧WhR g.C g.r g.lm g.lp,
 fun g _ _ _ A'=>dn g.C A' g.b (cT (cT g.Y 2 g.lm) 3 g.lp) (g.n+4+4*g.r.parts.length)⟩
theorem one1_ok:FOk Tryz.prog 98 one1S:=by
 refine aS mixed fun⟨C,b,Y,n,⟨kind,xid,zxid,err,ses,tmo,path,⟨q1,q2,q3,q4,q5,q6,q7,q8,q9,q10⟩,cfg,mem,parts⟩,⟨mv,mn,mc,mg⟩,⟨pv,pn,pc,pg⟩⟩ vs A hp=> ?_
 obtain⟨rfl,hBS,hn1,hlm,hlp,hpn⟩:vs= [.pointer (some ⟨b,0,none⟩),.agg (ek.cells ⟨kind,xid,zxid,err,ses,tmo,path,⟨q1,q2,q3,q4,q5,q6,q7,q8,q9,q10⟩,cfg,mem,parts⟩ mv pv).toArray]∧dn C A b Y n∧n+4*parts.length≤999800∧LsR C 4 97 ⟨mv,mn,mc,mg⟩ (bD mem)∧LsR C 22 46 ⟨pv,pn,pc,pg⟩ (parts.flatMap dj.cells)∧parts.length=pn:=hp;have hml:=hlm.nil_;obtain⟨bm,hmv, -⟩:=hlm.app;obtain⟨bp,hpv, -⟩:=hlp.app;have hmv:mv= .slice (aD bm) mn mc:=hmv;have hpv:pv= .slice (aD bp) pn pc:=hpv;subst hmv;subst hpv
 have hC:aF Tryz.prog (bu [aE 135 (rE 1),aE 136 (rE 0),aE 175 (rE 2),aE 61 put1S] noC):=az (aj _) (fun x hx=>by
  simp only [List.mem_cons,List.not_mem_nil,or_false]at hx;rcases hx with rfl|rfl|rfl|rfl
  ·exact ai (lV (by omega) qh)
  ·exact ai (lV (by omega) qg)
  ·exact ai (lV (by omega) mE)
  ·exact ai put1_ok)
 refine⟨_,noL,60,hC,ak _,fun blk os out tape D hD=> ?_⟩;conv=>lhs;whnf
 repeat(first|refine au hD rfl ?_
        conv=>lhs;whnf)
 refine(hD _).2 ⟨(⟨C,b,Y,n+0,nlL⟩:BsG),⟨rfl,hBS,⟨none,rfl⟩,by show n+0≤1000000;omega,lZ⟩,fun v A1 hq=> ?_⟩;have hBS:dn C A1 b (cT Y 1 nlL) (n+0+1):=hq;rw [mz]at hBS;conv=>lhs;whnf
 repeat(first|refine au hD rfl ?_
        conv=>lhs;whnf)
 refine(hD _).2 ⟨(⟨C,b,Y,n+1,nlL⟩:BsG),⟨rfl,hBS,⟨none,rfl⟩,by show n+1≤1000000;omega,lZ⟩,fun v A2 hq=> ?_⟩;have hBS:dn C A2 b (cT Y 0 nlL) (n+1+1):=hq;rw [mz]at hBS;conv=>lhs;whnf
 repeat(first|refine au hD rfl ?_
        conv=>lhs;whnf)
 refine(hD _).2 ⟨(⟨C,b,Y,n+2,⟨.slice (aD bm) mn mc,mn,mc,mg⟩⟩:BsG),⟨rfl,hBS,⟨bm,rfl⟩,by show n+2≤1000000;omega,hml⟩,fun v A3 hq=> ?_⟩;have hBS:dn C A3 b (cT Y 2 ⟨.slice (aD bm) mn mc,mn,mc,mg⟩) (n+2+1):=hq;conv=>lhs;whnf
 repeat(first|refine au hD rfl ?_
        conv=>lhs;whnf)
 refine(hD _).2 ⟨(⟨C,b,cT Y 2 ⟨.slice (aD bm) mn mc,mn,mc,mg⟩,n+3,⟨.slice (aD bp) pn pc,pn,pc,pg⟩,parts⟩:RowG),⟨rfl,hBS,by show n+3+4*parts.length≤999900;omega,hlp,hpn⟩,fun v A4 hq=> ?_⟩;have hBS:dn C A4 b (cT (cT Y 2 ⟨.slice (aD bm) mn mc,mn,mc,mg⟩) 3 ⟨.slice (aD bp) pn pc,pn,pc,pg⟩) (n+3+1+4*parts.length):=hq;have hend:dn C A4 b (cT (cT Y 2 ⟨.slice (aD bm) mn mc,mn,mc,mg⟩) 3 ⟨.slice (aD bp) pn pc,pn,pc,pg⟩) (n+4+4*parts.length):=hBS.le (by omega);conv=>lhs;whnf
 repeat(first|refine au hD rfl ?_
        conv=>lhs;whnf)
 exact(hD _).2 hend
structure TopG where
 C:aa
 b:Nat
 Y:Nat→List LsD
 n:Nat
 r:ek
 la:LsD
 lm:LsD
 lp:LsD
def put2S:aL:=⟨TopG,fun g vs A=>vs= [.pointer (some ⟨g.b,0,none⟩),g.la.v]∧dn g.C A g.b g.Y g.n∧g.n+4*g.r.parts.length≤999700∧LsR g.C 22 46 g.la (g.r.cells g.lm.v g.lp.v)∧g.la.n=1∧WhR g.C g.r g.lm g.lp,
 fun g _ _ _ A'=>dn g.C A' g.b (cT (cT (cT g.Y 3 g.la) 2 g.lm) 3 g.lp) (g.n+5+4*g.r.parts.length)⟩
theorem put2_ok:FOk Tryz.prog 61 put2S:=by
 refine aS mixed fun⟨C,b,Y,n,r,⟨lv,ln,lc,lg⟩,lm,lp⟩ vs A hp=> ?_
 obtain⟨rfl,hBS,hn1,hls,rfl,hW⟩:vs= [.pointer (some ⟨b,0,none⟩),lv]∧dn C A b Y n∧n+4*r.parts.length≤999700∧LsR C 22 46 ⟨lv,ln,lc,lg⟩ (r.cells lm.v lp.v)∧ln=1∧WhR C r lm lp:=hp;have hnl:=hls.nil_
 obtain⟨lb,hlv,hrd⟩:∃g,lv= .slice (some ⟨g,0,none⟩) 1 lc∧C.rd g 0 22=some (r.cells lm.v lp.v):=by
  rcases hls with⟨_,h2,_⟩|⟨g,_,h2,_,h4⟩
  ·cases h2
  ·exact⟨g,h2,h4.rd⟩
 subst hlv
 have hC:aF Tryz.prog (bu [aE 98 one1S] noC):=az (aj _) (fun x hx=>by
  simp only [List.mem_singleton]at hx
  subst hx;exact ai one1_ok)
 refine⟨_,noL,60,hC,ak _,fun blk os out tape D hD=> ?_⟩;obtain⟨L,X,hB,hX⟩:=hBS;obtain⟨base0,hbv, -⟩:=(hB.rows 3 (by omega)).app;have hn:=hB.len 3 (by omega);have hXl:=(hX 3 (by omega)).2.2
 have r1:A.rd b 12 1=some [.slice (aD base0) (L 3).n (L 3).c]:=by
  rw [←hbv];exact hB.top.rd (o:=12) (n:=1) (by show 12+1≤20;omega)
 conv=>lhs;whnf
 repeat(first|refine af r1 ?_|refine au hD rfl ?_
        conv=>lhs;whnf)
 refine(hD _).2 fun ge A8 hN8=> ?_
 have hN8:A.New A8 ge #[.slice (some ⟨lb,0,none⟩) 1 lc] 44:=hN8;have hB8:=hB.more hN8.sub;obtain⟨base,hbv2,hbase,hG,hcont⟩:=(hB8.rows 3 (by omega)).app
 have hbb:base0=base:=by
  rw [hbv]at hbv2;injection hbv2 with h1 _ _
  exact dJ h1
 subst hbb;have hPd:=hG 1 24 (by omega) (by omega) (by omega);have hrow9:A8.rd ge 0 (1*1)=some [.slice (some ⟨lb,0,none⟩) 1 lc]:=hN8.rd (o:=0) (n:=1*1) (by show 0+1*1≤1;omega);rcases hbase with rfl|⟨gx,ox,rfl⟩<;>(conv=>lhs;whnf)
 all_goals
  refine(hD _).2 ⟨_, [.slice (some ⟨lb,0,none⟩) 1 lc],hPd.rd,hrow9,rfl,fun v hv=>by
   rw [List.mem_singleton]at hv;rw [hv]
   rfl,?_,hPd.cap,rfl,hPd.none_,fun g' o' he' hle' _=>hPd.room 1 rfl g' o' he' hle',fun v9 A7 hAp=> ?_⟩
  ·show(L 3).n+1≤9223372036854775807
   omega
  ·obtain⟨L9,q1, -,q3, -,q5, -⟩:=hcont 1 [.slice (some ⟨lb,0,none⟩) 1 lc] v9 A7 rfl (by omega) hAp
   obtain⟨b9,hb9, -⟩:=q3.app;rw [q1]at hb9;subst hb9
   have hroom:A7.Room b 12 1:=by
    have h9:aG A7 b (oC (L 0).v (L 1).v (L 2).v (L 3).v):=hB8.top.sub fun ob hob=>q5 b ob hob fun e=>(hB8.r0 3 (by omega) b e).2 rfl
    exact h9.room (by show 12+1≤20;omega)
   conv=>lhs;whnf
   repeat(first|refine au hD rfl ?_
          conv=>lhs;whnf)
   refine(hD _).2 ⟨hroom,fun A6 hPut=> ?_⟩;have hPut:A7.Put A6 b 12 [.slice (aD b9) L9.n L9.c]:=hPut;obtain⟨L6,hB6⟩:=hB8.put (by omega) (l:=⟨.slice (some ⟨lb,0,none⟩) 1 lc,1,lc,lg⟩) hcont rfl hAp 12 (fun _ _ _ _=>rfl) (by omega) hPut;have hBs:=dn.rV hX hnl hB6;clear hB hB8 hB6 hX hcont hG;have rk:=aJ hBs.sub hrd;conv=>lhs;whnf
   repeat(first|refine af rk ?_|refine au hD rfl ?_
          conv=>lhs;whnf)
   refine(hD _).2 ⟨(⟨C,b,cT Y 3 ⟨.slice (some ⟨lb,0,none⟩) 1 lc,1,lc,lg⟩,n+1,r,lm,lp⟩:WhG),⟨rfl,hBs,by show n+1+4*r.parts.length≤999800;omega,hW⟩,fun v A5 hq=> ?_⟩;have hq:dn C A5 b (cT (cT (cT Y 3 ⟨.slice (some ⟨lb,0,none⟩) 1 lc,1,lc,lg⟩) 2 lm) 3 lp) (n+1+4+4*r.parts.length):=hq;conv=>lhs;whnf
   repeat(first|refine af rk ?_|refine au hD rfl ?_
          conv=>lhs;whnf)
   exact(hD _).2 hq
end
end Go.Proofs.YtphigpccfbfnoaaGreatDoor
namespace Go.Proofs.YtphigpccfbfnoaaGreatDoor
open Go.RowKit Go.Shelf
theorem idx1(s:ByteArray)(c:Int)(w:World):
  Calls Tryz.prog 206 #[.string s,.int .u8 c] w fun e w'=>e= .returned (.int .i64 (Lib.indexByte s.data.toList c.toNat.toUInt8))∧w'=w:=by
 go_enter Tryz.func206,Tryz.ntmps206
 go_wp2
 rw [run_callFunc_extern Tryz.func216 (by kernel_rfl) (by kernel_rfl) (by kernel_rfl) (e:=Extern.BytealgIndexByte.indexByte) (by kernel_rfl),Lib.run_indexByteString];simp only [Result.andThen];rw [Oper.upon_value]
 go_wp2
 go_ret
 exact⟨rfl,rfl⟩
theorem idx2(s:ByteArray)(w:World):
  Calls Tryz.prog 196 #[.string s,.string ⟨#[47]⟩] w fun e w'=>e= .returned (.int .i64 (Lib.index s.data.toList [47]))∧w'=w:=by
 go_enter Tryz.func196,Tryz.ntmps196
 go_wp2_with (go_at_call 206;refine(idx1 _ _ _).mono ?_;rintro e w' ⟨rfl,rfl⟩)
 ·have h1:([47]==s.toList)=true:=by assumption
  go_ret
  refine⟨?_,rfl⟩;rw [show Lib.index s.data.toList [47]=0 from Lib.zero s ⟨#[47]⟩ (.inr (by simpa using h1))];rfl
 ·go_ret
  refine⟨?_,rfl⟩;rw [show Lib.index s.data.toList [47]=_ from Lib.one s ⟨#[47]⟩ rfl];rfl
theorem cut1(s:ByteArray)(hs:s.size<4294967281)(w:World):
  Calls Tryz.prog 177 #[.string s,.string ⟨#[47]⟩] w fun e w'=>e= .returned (.tuple #[.string ⟨(Lib.cut s.data.toList [47]).1.toArray⟩,.string ⟨(Lib.cut s.data.toList [47]).2.1.toArray⟩,.bool (Lib.cut s.data.toList [47]).2.2])∧∃n,w'=w.drewN n:=by
 have mixed:Tryz.prog.follows .mixedOrders=true:=by kernel_rfl
 rcases Lib.indexB_cases s ⟨#[47]⟩with hix|⟨i,hix,hroom⟩
 ·obtain⟨e1,e2,e3⟩:=Lib.cutB_miss s ⟨#[47]⟩ hix
  rw [show(Lib.cut s.data.toList [47]).1=_ from rfl,show(⟨(Lib.cut s.data.toList [47]).1.toArray⟩:ByteArray)=_ from e1,show(⟨(Lib.cut s.data.toList [47]).2.1.toArray⟩:ByteArray)=_ from e2,show(Lib.cut s.data.toList [47]).2.2=_ from e3]
  go_enter Tryz.func177,Tryz.ntmps177
  go_wp2_with (go_at_call 196;refine(idx2 _ _).mono ?_;rintro e w' ⟨rfl,rfl⟩;rw [show Lib.index s.data.toList [47]=_ from hix])
  go_ret3
  exact⟨rfl,0,rfl⟩
 ·obtain⟨e1,e2,e3⟩:=Lib.cutB_hit s ⟨#[47]⟩ i hix
  rw [show(⟨(Lib.cut s.data.toList [47]).1.toArray⟩:ByteArray)=_ from e1,show(⟨(Lib.cut s.data.toList [47]).2.1.toArray⟩:ByteArray)=_ from e2,show(Lib.cut s.data.toList [47]).2.2=_ from e3];have c0:(⟨#[47]⟩:ByteArray).size=1:=rfl;rw [c0]at hroom ⊢;have c1:(0:Int)≤ ↑i:=by omega
  have c2:(↑i:Int)≤ ↑s.size:=by omega
  have c3:(0:Int)≤ ↑i+1:=by omega
  have c4:(↑i+1:Int)≤ ↑s.size:=by omega
  go_enter Tryz.func177,Tryz.ntmps177
  go_wp2_with (go_at_call 196;refine(idx2 _ _).mono ?_;rintro e w' ⟨rfl,rfl⟩;rw [show Lib.index s.data.toList [47]=_ from hix])
  go_region_o
  go_wp2
  go_ret3
  exact⟨rfl,1,rfl⟩
theorem cut2(s:ByteArray)(hs:s.size<4294967281)(w:World):
  Calls Tryz.prog 159 #[.string s,.string ⟨#[47]⟩] w fun e w'=>e= .returned (.tuple #[.string ⟨(Lib.cut s.data.toList [47]).1.toArray⟩,.string ⟨(Lib.cut s.data.toList [47]).2.1.toArray⟩,.bool (Lib.cut s.data.toList [47]).2.2])∧∃n,w'=w.drewN n:=by
 go_enter Tryz.func159,Tryz.ntmps159
 go_wp2_with (go_at_call 177;refine(cut1 _ hs _).mono ?_;rintro e w' ⟨rfl,n,rfl⟩)
 go_ret3
 exact⟨rfl,n,rfl⟩
def dS(b:UInt8):Bool:=decide (33≤b.toNat)&&decide (b.toNat≤126)&& !(b==47)
def cE(l:List UInt8):Bool:=l.all dS&& !l.isEmpty&& !(l== [46])&& !(l== [46,46])
theorem mj(s:ByteArray)(pos:Nat)(hp:pos<s.size):
  (dS (s[pos]'hp)=true∧Utf8.decode s pos=((s[pos]'hp).toNat,1)∧33≤(Utf8.decode s pos).1∧(Utf8.decode s pos).1≤126∧(Utf8.decode s pos).1≠47)∨
  (dS (s[pos]'hp)=false∧((Utf8.decode s pos).1<33∨126<(Utf8.decode s pos).1∨(Utf8.decode s pos).1=47)):=by
 by_cases ha:(s[pos]'hp).toNat<128
 ·have hd:=decode_ascii s pos hp ha
  rw [hd]
  have h47:((s[pos]'hp)==47)=decide ((s[pos]'hp).toNat=47):=by
   rw [Bool.eq_iff_iff,beq_iff_eq,decide_eq_true_iff];exact⟨fun h=>by rw [h];rfl,fun h=>UInt8.toNat_inj.1 (by rw [h];rfl)⟩
  unfold dS;rw [h47]
  by_cases h1:33≤(s[pos]'hp).toNat<;>by_cases h2:(s[pos]'hp).toNat≤126<;>by_cases h3:(s[pos]'hp).toNat=47<;>simp [h1,h2,h3]<;>omega
 ·refine .inr ⟨?_,.inr (.inl ?_)⟩
  ·unfold dS
   have:¬(s[pos]'hp).toNat≤126:=by omega
   simp [this]
  ·have:=(decode_high s pos hp (by omega)).1
   omega
theorem rQ(s:ByteArray)(pos:Nat)(hp:pos<s.size)(h:dS (s[pos]'hp)=false):cE s.data.toList=false:=by
 unfold cE
 have:s.data.toList.all dS=false:=by
  rw [List.all_eq_false];exact⟨s[pos]'hp,by simp [ByteArray.getElem_eq_getElem_data],by simp [h]⟩
 simp [this]
theorem Fm(s:ByteArray)(pos:Nat)(hp:¬pos<s.size)(h2:(s.data.toList.take pos).all dS=true):Hid (cE s.data.toList=(!s.toList.isEmpty&& !s.toList== [46]&& !s.toList== [46,46])):=by
 show _=_
 rw [List.take_of_length_le (by have:s.data.toList.length=s.size:=rfl;omega)]at h2;unfold cE;rw [h2,ByteArray.toList_eq];simp
theorem take_ok(s:ByteArray)(pos:Nat)(hp:pos<s.size)(h:dS (s[pos]'hp)=true)(h2:(s.data.toList.take pos).all dS=true):(s.data.toList.take (pos+1)).all dS=true:=by
 have hl:pos<s.data.toList.length:=by simpa using hp
 rw [List.take_succ_eq_append_getElem hl,List.all_append,h2];simpa [ByteArray.getElem_eq_getElem_data]using h
theorem part1(s:ByteArray)(w:World):
  Calls Tryz.prog 121 #[.string s] w fun e w'=>e= .returned (.bool (cE s.data.toList))∧∃pos,w'=w.iter s pos:=by
 go_enter Tryz.func121,Tryz.ntmps121
 go_wp2
 go_loopw [] (fun w'=>∃(pos:Nat),w'=w.iter s pos∧pos≤s.size∧(s.data.toList.take pos).all dS=true) (fun w'=>s.size-w'.iterPos w.heap.size)
 case atStart=>exact⟨0,rfl,by omega,by simp⟩
 case round=>
  obtain⟨pos,rfl,h1,h2⟩:=hrel
  by_cases hp:pos<s.size
  ·have hnx:∀ty,(Instr.next (.pointer (some ⟨w.heap.size,0,none⟩)) true ty).run Tryz.prog (w.iter s pos)=_:=fun ty=>run_next_any w s pos ty hp
   go_wp2
   ·rename_i g
    rcases mj s pos hp with⟨k1,k2,k3,k4,k5⟩|⟨k1,k2⟩
    ·exfalso
     rcases g with g|g
     ·omega
     ·have:=eq_of_beq g;omega
    ·have k3:=rQ s pos hp k1
     go_ret
     exact⟨by rw [k3];rfl,_,rfl⟩
   ·rename_i g
    rcases mj s pos hp with⟨k1,k2,k3,k4,k5⟩|⟨k1,k2⟩
    ·rw [k2]
     exact⟨⟨pos+1,rfl,by omega,take_ok s pos hp k1 h2⟩,by simp;omega⟩
    ·exfalso
     obtain⟨g,g'⟩:=g;have:=ne_of_beq_false g';omega
   ·rename_i g
    rcases mj s pos hp with⟨k1,k2,k3,k4,k5⟩|⟨k1,k2⟩
    ·exfalso;omega
    ·have k3:=rQ s pos hp k1
     go_ret
     exact⟨by rw [k3];rfl,_,rfl⟩
   ·rename_i g
    rcases mj s pos hp with⟨k1,k2,k3,k4,k5⟩|⟨k1,k2⟩
    ·exfalso;omega
    ·have k3:=rQ s pos hp k1
     go_ret
     exact⟨by rw [k3];rfl,_,rfl⟩
  ·have hnx:∀ty,(Instr.next (.pointer (some ⟨w.heap.size,0,none⟩)) true ty).run Tryz.prog (w.iter s pos)=_:=fun ty=>run_next_end w s pos ty hp
   have h3:=Fm s pos hp h2
   go_wp2
   ·rename_i g
    go_ret
    refine⟨?_,_,rfl⟩;rw [h3.out,g];rfl
   ·rename_i g
    go_ret
    refine⟨?_,_,rfl⟩;rw [h3.out,g];rfl
   ·go_ret
    refine⟨?_,_,rfl⟩;rw [h3.out];rfl
end Go.Proofs.YtphigpccfbfnoaaGreatDoor
namespace Go.Proofs.YtphigpccfbfnoaaGreatDoor
open Go.RowKit Go.Shelf
attribute [local go_sem] Oper.semAt_some
def aZ:List UInt8→List (List UInt8)
 | []=> [[]]
 |b::l=>bif b==47 then []::aZ l else match aZ l with
  |x::xs=>(b::x)::xs
  | []=> [[b]]
def dr(q:List UInt8):Bool:=q.isEmpty||(aZ q).all cE
theorem fG:∀(l:List UInt8),(∀b∈l,b≠47)→aZ l= [l]
 | [],_=>rfl
 |b::l,h=>by
  have hb:(b==47)=false:=by simpa using h b (by simp)
  simp [aZ,hb,fG l (fun x hx=>h x (by simp [hx]))]
theorem jY:∀(a b:List UInt8),(∀x∈a,x≠47)→aZ (a++47::b)=a::aZ b
 | [],b,_=>by simp [aZ]
 |x::a,b,h=>by
  have hb:(x==47)=false:=by simpa using h x (by simp)
  simp [aZ,hb,jY a b (fun y hy=>h y (by simp [hy]))]
theorem iY:∀(l:List UInt8),(Lib.index l [47]= -1∧∀x∈l,x≠47)∨(∃a b,l=a++47::b∧(∀x∈a,x≠47)∧Lib.index l [47]=a.length)
 | []=> .inl ⟨rfl,by simp⟩
 |x::l=>by
  by_cases hx:x=47
  ·subst hx
   exact .inr ⟨[],l,rfl,by simp,by simp [Lib.index,List.isPrefixOf]⟩
  ·have e:List.isPrefixOf [47] (x::l)=false:=by
     simp [List.isPrefixOf];exact fun h=>hx h.symm
   rcases iY l with⟨h1,h2⟩|⟨a,b,h1,h2,h3⟩
   ·refine .inl ⟨by simp [Lib.index,e,h1],fun y hy=> ?_⟩
    rcases List.mem_cons.1 hy with rfl|hy
    ·exact hx
    ·exact h2 y hy
   ·refine .inr ⟨x::a,b,by simp [h1],fun y hy=> ?_,?_⟩
    ·rcases List.mem_cons.1 hy with rfl|hy
     ·exact hx
     ·exact h2 y hy
    ·have:((a.length:Int)== -1)=false:=by rw [beq_eq_false_iff_ne];omega
     simp [Lib.index,e,h3,this]
def jR(q n1 n2:List UInt8):Prop:=
 (n1=q∧n2= []∧aZ q= [q])∨(q=n1++47::n2∧aZ q=n1::aZ n2)
theorem DW(q:List UInt8):jR q (Lib.cut q [47]).1 (Lib.cut q [47]).2.1:=by
 unfold Lib.cut;rcases iY q with⟨h1,h2⟩|⟨a,b,h1,h2,h3⟩
 ·rw [h1]
  exact .inl ⟨rfl,rfl,fG q h2⟩
 ·rw [h3,if_pos (by omega)]
  refine .inr ?_;have e1:q.take (↑a.length:Int).toNat=a:=by rw [h1];simp
  have e2:q.drop ((↑a.length:Int).toNat+ [47].length)=b:=by
   rw [h1];simp
  simp only [e1];rw [show q.drop ((↑a.length:Int).toNat+ [(47:UInt8)].length)=b from e2];rw [h1];exact⟨rfl,jY a b h2⟩
theorem cut3(s:ByteArray)(hs:s.size<4294967281)(w:World):
  Calls Tryz.prog 159 #[.string s,.string ⟨#[47]⟩] w fun e w'=>∃n1 n2 b n,e= .returned (.tuple #[.string n1,.string n2,.bool b])∧w'=w.drewN n∧Hid (jR s.data.toList n1.data.toList n2.data.toList):=by
 refine(cut2 s hs w).mono ?_
 rintro e w' ⟨rfl,n,rfl⟩
 exact⟨_,_,_,n,rfl,rfl,DW _⟩
end Go.Proofs.YtphigpccfbfnoaaGreatDoor
namespace Go.Proofs.YtphigpccfbfnoaaGreatDoor
open Go.RowKit Go.Shelf
attribute [local go_sem] Oper.semAt_some
def strSize:Option Value→Nat
 |some (.string s)=>s.size
 |_=>0
theorem F7{p:ByteArray}{b:UInt8}{q:List UInt8}(hp:p.data.toList=b::q):(p.extract 1 p.size).data.toList=q:=by
 have:(p.extract 1 p.size).data.toList=(p.data.toList.drop 1).take (p.size-1):=by
  rw [ByteArray.data_extract];simp [Array.toList_extract]
 rw [this,hp];have h:p.size=(b::q).length:=by rw [←hp];rfl
 simp [h]
theorem wrap64_in'(n:Int)(h: -9223372036854775808≤n∧n≤9223372036854775807):wrap64 n=n:=by unfold wrap64;omega
theorem eO(p:ByteArray):p.size=p.data.toList.length:=rfl
theorem ER{q n1 n2:List UInt8}(hq:q≠ [])(h:jR q n1 n2)(ho:cE n1=false):dr q=false:=by
 unfold dr;rcases h with⟨h1,_,h3⟩|⟨_,h3⟩
 ·rw [h3,←h1]
  cases n1 with
  |nil=>exact absurd h1.symm hq
  |cons x xs=>simp [ho]
 ·rw [h3]
  cases q with
  |nil=>exact absurd rfl hq
  |cons x xs=>simp [ho]
theorem CJ{q n1 n2:List UInt8}(h:jR q n1 n2)(ho:cE n1=true)(hl:n1.length=q.length):dr q=true:=by
 unfold dr;rcases h with⟨h1,_,h3⟩|⟨h1,_⟩
 ·rw [h3,←h1]
  simp [ho]
 ·rw [h1]at hl;simp at hl
theorem CI{q n1 n2:List UInt8}(h:jR q n1 n2)(ho:cE n1=true)(hl:n1.length≠q.length):q.length=n1.length+n2.length+1∧dr q=(aZ n2).all cE:=by
 rcases h with⟨h1,_,h3⟩|⟨h1,h2⟩
 ·exact absurd (by rw [h1]) hl
 ·refine⟨by rw [h1];simp;omega,?_⟩
  unfold dr;rw [h2]
  cases q with
  |nil=>simp at h1
  |cons x xs=>simp [ho]
theorem iter1(n:Nat)(_:2≤n)(l Bn:Nat)(J Jx:ByteArray→World→Prop)
  (jc:∀p W,J p W→W.cell? ⟨Bn,0,none⟩=some (.string p)∧W.frozen? ⟨Bn,0,none⟩=false)
  (xc:∀p W,Jx p W→W.cell? ⟨Bn,0,none⟩=some (.string p))
  (jd:∀p W k,J p W→J p (W.drewN k))
  (js:∀p p' W,J p W→J p' (W.setCell ⟨Bn,0,none⟩ (.string p')))
  (hY:∀p x W,J p W→YieldAt Fence.wide (n-1) Tryz.prog l #[.string x] W fun e W'=>(Hid (cE x.data.toList=true)∧e= .returned (.bool true)∧J p W')∨(Hid (cE x.data.toList=false)∧e= .returned (.bool false)∧Jx p W'))
  (p0:ByteArray) (q0:List UInt8) (hp0:Hid (p0.data.toList=47::q0)) (hsz:p0.size≤200) (W:World) (h0:J p0 W):
  CallsIn Fence.wide n Tryz.prog 158 #[.func (.yield l) #[] #[],.pointer (some ⟨Bn,0,none⟩)] W fun e W'=>(∃v,e= .returned v)∧
   ((dr q0=true∧∃p,J p W')∨(dr q0=false∧∃p,Jx p W')):=by
 refine callsIn_of_wp Tryz.func158 rfl trivial ?_ rfl;simp only [Tryz.ntmps158,List.size_toArray,List.length_cons,List.length_nil,Nat.reduceAdd,Nat.reduceSub,Array.replicate_succ,Array.replicate_zero,List.push_toArray,List.append_toArray,List.nil_append,List.cons_append]
 gi_wp2
 gi_loopw [] (fun wr=>(∃(p:ByteArray) (q:List UInt8),J p wr∧Hid (p.data.toList=47::q)∧Hid (dr q=dr q0)∧p.size≤200)∨(∃p:ByteArray,Jx p wr∧Hid (p=⟨#[47]⟩)∧Hid (dr q0=false)))
  (fun wr=>strSize (wr.cell? ⟨Bn,0,none⟩))
 case atStart=>exact .inl ⟨p0,q0,h0,hp0,rfl,hsz⟩
 case round=>
  rcases hrel with⟨p,q,hJ,hp,hq,hs⟩|⟨p,hX,hp,hq⟩
  ·obtain⟨hc,hf⟩:=jc p wr hJ
   have hs1:(1:Int)≤ ↑p.size:=by
    have:p.size=(47::q).length:=by rw [←hp.out];rfl
    simp at this;omega
   have hsq:Hid (p.size=q.length+1):=by show _=_;rw [eO,hp.out];rfl
   by_cases hq':q= []
   ·
    have hp':p=⟨#[47]⟩:=by
     have h:=hp.out;rw [hq']at h;obtain⟨⟨x⟩⟩:=p;simp at h;rw [h]
    subst hp'
    have hq2:Hid (dr q0=true):=by
     have h:=hq.out;rw [hq']at h;exact h.symm
    clear hq'
    gi_wp2
    go_end0
    exact⟨⟨_,rfl⟩,.inl ⟨hq2.out,_,hJ⟩⟩
   ·have hne:(p.toList== [47])=false:=by
      rw [beq_eq_false_iff_ne,ByteArray.toList_eq,hp.out];intro h;injection h with _ h
      exact hq' h
    have hee:p.toList.isEmpty=false:=by
     rw [ByteArray.toList_eq,hp.out];rfl
    have hq2:Hid (q≠ []):=hq';clear hq'
    gi_wp2
    refine⟨trivial,fun h=>(by cases h),?_⟩;refine(callsIn_wide.2 (cut3 _ (by rw [ByteArray.size_extract];omega) _)).mono ?_
    rintro e w' ⟨n1,n2,b,k,rfl,rfl,hcut⟩
    have hcut':Hid (jR q n1.data.toList n2.data.toList):=by
     have h:=hcut.out;rw [F7 hp.out]at h;exact h
    clear hcut;have hJ1:=jd _ _ k hJ;obtain⟨hc1,hf1⟩:=jc _ _ hJ1;obtain⟨fn,tmps,assign,body,hy,hR⟩:=hY _ n1 _ hJ1
    gi_wp2
    refine⟨fun h=>(by cases h),hR.mono ?_⟩
    rintro e W3 (⟨ho,rfl,hJ3⟩|⟨ho,rfl,hX3⟩)
    ·obtain⟨hc3,hf3⟩:=jc _ _ hJ3
     by_cases hl:n1.data.toList.length=q.length
     ·have hlast:Hid (dr q0=true):=by
        rw [←hq.out];exact CJ hcut'.out ho.out hl
      have hlen:wrap64 ((n1.size:Int)+1)=(p.size:Int):=by
       have h1:=hsq.out;rw [wrap64_in' _ (by rw [eO];omega),eO n1,hl,h1];simp
      clear hl
      gi_wp2
      refine bodyPost_ret (results_none rfl _ _ _) rfl ?_;exact⟨⟨_,rfl⟩,.inl ⟨hlast.out,_,hJ3⟩⟩
     ·obtain⟨hlq,hmore'⟩:=CI hcut'.out ho.out hl
      have hmore:Hid (dr q0=(aZ n2.data.toList).all cE):=by
       rw [←hq.out];exact hmore'
      have hlen:(wrap64 ((n1.size:Int)+1)==(p.size:Int))=false:=by
       have h1:=hsq.out;rw [wrap64_in' _ (by rw [eO];omega),eO n1,h1,beq_eq_false_iff_ne];omega
      have hn2:¬9223372036854775807<1+n2.size:=by
       have h1:=hsq.out;rw [eO];omega
      have hlq2:Hid (q.length=n1.data.toList.length+n2.data.toList.length+1):=hlq;clear hl hlq hmore';have hJ4:=js p (⟨#[47]⟩++n2) W3 hJ3;obtain⟨fn2,tm2,as2,bo2,hy2,hR2⟩:=hY _ ⟨#[]⟩ _ hJ4
      gi_wp2
      ·rename_i hz _ _
       have hz':n2.data.toList= []:=by
        rw [ByteArray.toList_eq]at hz;exact List.isEmpty_iff.1 hz
       have hz2:n2=⟨#[]⟩:=by
        obtain⟨⟨x⟩⟩:=n2;simp at hz';rw [hz']
       clear hz hz';refine⟨fun h=>(by cases h),hR2.mono ?_⟩
       rintro e W4 (⟨ho2,rfl,hJ5⟩|⟨ho2,rfl,hX5⟩)
       ·exact absurd (ho2.out:cE []=true) (by decide)
       ·have hc4:=xc _ _ hX5
        have hbad:Hid (dr q0=false):=by
         rw [hmore.out,hz2];rfl
        gi_wp2
        refine⟨.inr ⟨_,hX5,?_,hbad⟩,?_⟩
        ·rw [hz2];rfl
        ·have h1:=hsq.out;have h2:=hlq2.out
         rw [hc4,hc,hz2];show 1<p.size
         omega
      ·rename_i hz
       have hz':n2.data.toList≠ []:=by
        rw [ByteArray.toList_eq]at hz;intro h;rw [h]at hz
        cases hz
       have hs2:(⟨#[47]⟩++n2:ByteArray).size=n2.size+1:=by
        rw [ByteArray.size_append];have:(⟨#[47]⟩:ByteArray).size=1:=rfl;omega
       have h1:=hsq.out;have h2:=hlq2.out
       have h3:=eO n2;refine⟨.inl ⟨_,n2.data.toList,hJ4,?_,?_,?_⟩,?_⟩
       ·show _=_
        rw [ByteArray.data_append,Array.toList_append];rfl
       ·show _=_
        rw [hmore.out];unfold dr
        cases hd:n2.data.toList with
        |nil=>exact absurd hd hz'
        |cons x xs=>simp
       ·rw [hs2];omega
       ·rw [(jc _ _ hJ4).1,hc]
        show(⟨#[47]⟩++n2:ByteArray).size<p.size
        rw [hs2];omega
    ·have hc3:=xc _ _ hX3
     have hbad:Hid (dr q0=false):=by
      rw [←hq.out];exact ER hq2.out hcut'.out ho.out
     gi_wp2
     refine bodyPost_ret (results_none rfl _ _ _) rfl ?_;exact⟨⟨_,rfl⟩,.inr ⟨hbad.out,_,hX3⟩⟩
  ·have hc:=xc _ _ hX
   have hp':=hp.out;subst hp'
   gi_wp2
   go_end0
   exact⟨⟨_,rfl⟩,.inr ⟨hq.out,_,hX⟩⟩
end Go.Proofs.YtphigpccfbfnoaaGreatDoor
