/-
  Parts of the proof: SxI
-/
import Derived.Test.YtphigpccfbfnoaaGreatDoorG04
set_option maxRecDepth 100000
set_option maxHeartbeats 0
namespace Go.Sx
noncomputable section
def pj:TypeDesc→Bool
 | .int _=>false
 |_=>true
section
variable {P:Program} {st xt u e:TypeId} {se sx:STy} {blk o sLen sCap n:Nat} {X:Value} {nc:Array Value} {w:World}
theorem eL{base:Option Addr}(hst:P.underlying st=some (.slice e))(hse:ty P e=some se)(hxt:ty P xt=some sx)(hni:pj sx.und=true)
  (hlen:(Builtin.lenOf X).run P w= .ok n w) (hfc:(Builtin.firstCells se.size n X).run P w= .ok nc w) (hle:sLen+n≤sCap) {w':World}
  (hs:((match base with|some a=>storeCells (a.add (sLen*se.size)) nc.toList|none=>pure ()):Sem Unit).run P w= .ok () w'):
  (Builtin.append_ #[st,xt] u #[.slice base sLen sCap,X]).run P w= .ok (.slice base (sLen+n) sCap) w':=by
 cases hd:sx.und<;>rw [hd]at hni<;>first
  |(cases hni;done)
  |(simp only [Builtin.append_,List.getElem?_toArray,List.getElem?_cons_zero,List.getElem?_cons_succ,Sem.run_bind,run_underlying hst,aA w hxt,bK w hse,Result.andThen_ok,Sem.run_pure,hd,Bool.false_eq_true,if_false,hlen,hle,if_true,Bool.not_false,hfc]
    cases base with
    |none=>simp only [Sem.run_pure]at hs;injection hs with _ hs;subst hs;rfl
    |some a=>simp only [Sem.run_bind,hs,Result.andThen_ok,Sem.run_pure])
theorem mN{base:Option Addr}(hst:P.underlying st=some (.slice e))(hse:ty P e=some se)(hxt:ty P xt=some sx)(hni:pj sx.und=true)
  (hlen:(Builtin.lenOf X).run P w= .ok n w) (hfc:∀d,(Builtin.firstCells se.size n X).run P { w with drawn:=d } = .ok nc { w with drawn:=d }) (hgt:sCap<sLen+n) {old:Array Value}
  (hold:∀d,(Builtin.firstCells se.size sLen (.slice base sLen sCap)).run P { w with drawn:=d } = .ok old { w with drawn:=d })
  (hneed:Builtin.nextslicecap (sLen+n) sCap*se.bytes≤281474976710656) (hbig:sLen+n≤9223372036854775807):
  ∃newCap,sLen+n≤newCap∧(Builtin.append_ #[st,xt] u #[.slice base sLen sCap,X]).run P w=
   .ok (.slice (some ⟨w.heap.size,0,none⟩) (sLen+n) newCap) { w with drawn:=w.drawn+1,heap:=w.heap.push (.cells (old++nc++Builtin.zeroCells se.zero.cells (newCap-(sLen+n))) e) } :=by
 obtain⟨i,hi,hi1,hi2,hi3⟩:=gC w hse;have hz:∀d,(zeroValue e).run P { w with drawn:=d } = .ok se.zero { w with drawn:=d } :=fun d=>cQ _ hse
 have hti:∀d,∃i,(typeInfo e).run P { w with drawn:=d } = .ok i { w with drawn:=d } :=fun d=>let ⟨i,hi,_⟩:=gC { w with drawn:=d } hse;⟨i,hi⟩
 obtain⟨i2,hi2'⟩:=hti (w.drawn+1)
 have hnext:¬(Builtin.nextslicecap (sLen+n) sCap*i.bytes>2^48):=by
  rw [hi2];have:(2^48:Nat)=281474976710656:=by decide
  omega
 have hmax:¬(((sLen+n:Nat):Int)>IntKind.i64.max∧(False∨i.bytes=0)):=by
  rintro⟨h,_⟩
  have:IntKind.i64.max=9223372036854775807:=by decide
  omega
 have hcap:sLen+n≤(Question.appendCap (sLen+n) sCap e).cut (w.tape w.drawn (Question.appendCap (sLen+n) sCap e)):=by simp [Question.cut]
 refine⟨_,hcap,?_⟩
 cases hd:sx.und<;>rw [hd]at hni<;>first
  |(cases hni;done)
  |(simp only [Builtin.append_,List.getElem?_toArray,List.getElem?_cons_zero,List.getElem?_cons_succ,Sem.run_bind,run_underlying hst,aA w hxt,bK w hse,Result.andThen_ok,Sem.run_pure,hd,Bool.false_eq_true,if_false,hlen,show ¬(sLen+n≤sCap)by omega,hi,hnext,hmax,run_choose,Question.forced,hi2',run_askRoom,hold,Bool.not_false,if_true,hfc,hz,newRow,run_newObj]
    done)
theorem kB{base:Option Addr}(hst:P.underlying st=some (.slice e))(hse:ty P e=some se)(hxt:ty P xt=some sx)(hni:pj sx.und=true)
  (hlen:(Builtin.lenOf X).run P w= .ok n w) (hfc:∀d,(Builtin.firstCells se.size n X).run P { w with drawn:=d } = .ok nc { w with drawn:=d }) (hgt:sCap<sLen+n) {old:Array Value}
  (hold:∀d,(Builtin.firstCells se.size sLen (.slice base sLen sCap)).run P { w with drawn:=d } = .ok old { w with drawn:=d })
  (hneed:(2*(sLen+n)+768)*se.bytes≤281474976710656) (hbig:sLen+n≤9223372036854775807):
  ∃newCap,sLen+n≤newCap∧(Builtin.append_ #[st,xt] u #[.slice base sLen sCap,X]).run P w=
   .ok (.slice (some ⟨w.heap.size,0,none⟩) (sLen+n) newCap) { w with drawn:=w.drawn+1,heap:=w.heap.push (.cells (old++nc++Builtin.zeroCells se.zero.cells (newCap-(sLen+n))) e) } :=
 mN hst hse hxt hni hlen hfc hgt hold (by
  have h1:=gD hgt;have h2:=Nat.mul_le_mul_right se.bytes h1
  omega) hbig
end
theorem ba.move{ρ:Nat→Loc}{h:HS}{w w':World}(H:ba ρ h w){b:Nat}{B0 B:bS}{L:Loc}(hb:h.H.get b=some B0)(hB:B.lt ρ h.nx)(hL:L.blk=(ρ b).blk)(hR:B.Rel ρ L w')
  (S:Same (ρ b).blk w w'):ba (extend ρ h.nx L) (HS.new { h with H:=h.H.del b } B) w':=by
 refine⟨S.os.trans H.os,S.out.trans H.out,S.tape.trans H.tape,fun k o hk=> ?_,fun c C hc=> ?_,fun c c' C C' hc hc' he=> ?_,fun c C hc=> ?_,fun k o hk=> ?_,fun c C hc=> ?_,H.disj⟩
 ·have hk':h.M.blk k=some o:=hk
  rw [S.other k (fun e=>by subst e;rw [H.apart b B0 hb]at hk';cases hk')];exact H.mem k o hk
 ·rcases T.cI hc with⟨rfl,rfl⟩|⟨hne,hc⟩
  ·refine⟨Nat.lt_succ_self _,bS.fV (bd _ _ _) (Nat.le_succ _) hB,?_⟩
   rw [bA];exact hR.of (bd _ _ _) hB rfl
  ·obtain⟨hcb,hc⟩:=T.dD hc
   obtain⟨k1,k2,k3⟩:=H.blk c C hc;refine⟨Nat.lt_succ_of_lt k1,bS.fV (bd _ _ _) (Nat.le_succ _) k2,?_⟩;rw [bd ρ h.nx L c k1];exact k3.of (bd _ _ _) k2 (S.other _ fun e=>hcb (H.inj c b C B0 hc hb e))
 ·rcases T.cI hc with⟨rfl,rfl⟩|⟨hne,hc2⟩<;>rcases T.cI hc' with⟨rfl,rfl⟩|⟨hne',hc2'⟩
  ·rfl
  ·obtain⟨hcb,hc2'⟩:=T.dD hc2'
   rw [bA,bd ρ h.nx L c' (H.blk c' C' hc2').1,hL]at he;exact absurd (H.inj c' b C' B0 hc2' hb he.symm) hcb
  ·obtain⟨hcb,hc2⟩:=T.dD hc2
   rw [bA,bd ρ h.nx L c (H.blk c C hc2).1,hL]at he;exact absurd (H.inj c b C B0 hc2 hb he) hcb
  ·obtain⟨_,hc2⟩:=T.dD hc2
   obtain⟨_,hc2'⟩:=T.dD hc2';rw [bd ρ h.nx L c (H.blk c C hc2).1,bd ρ h.nx L c' (H.blk c' C' hc2').1]at he;exact H.inj c c' C C' hc2 hc2' he
 ·rcases T.cI hc with⟨rfl,rfl⟩|⟨hne,hc⟩
  ·rw [bA,hL];exact H.apart b B0 hb
  ·obtain⟨_,hc⟩:=T.dD hc
   rw [bd ρ h.nx L c (H.blk c C hc).1];exact H.apart c C hc
 ·have hk':h.M.A.blk k=some o:=hk
  rw [S.other k (fun e=>by subst e;rw [H.aprA b B0 hb]at hk';cases hk')];exact H.are k o hk
 ·rcases T.cI hc with⟨rfl,rfl⟩|⟨hne,hc⟩
  ·rw [bA,hL];exact H.aprA b B0 hb
  ·obtain⟨_,hc⟩:=T.dD hc
   rw [bd ρ h.nx L c (H.blk c C hc).1];exact H.aprA c C hc
theorem dX{h:HS}{size n:Nat}{x:SV}{cs:List SV}{P:Program}(hx:eG h size n x=some cs){ρ:Nat→Loc}{w:World}(H:ba ρ h w)(d:Nat):
  (Builtin.firstCells size n (x.den ρ)).run P { w with drawn:=d } = .ok (cs.map (SV.den ρ)).toArray { w with drawn:=d } :=by
 rcases jX (P:=P) hx (H.drawn d)with⟨h,_⟩|⟨_,_,_,_,h⟩<;>exact h
theorem pI{h h0:HS}{e:TypeId}{τ:Nat}{se:STy}(hτ:τ=0∨(τ=e+1∧se.size≠0)){cs:List SV}{need:Nat}{K:SV→HS→Bool}(hk:qn h τ se cs need K){ρ:Nat→Loc}{w:World}(H:ba ρ h w)(hlt:∀x∈cs,x.lt ρ h.nx)
  (h01:h0.nx=h.nx) (h02:h0.M=h.M) {newCap:Nat} (hcap:need≤newCap) {c:Array Value} (hc:c=(cs.map (SV.den ρ)).toArray) (d:Nat):
  dT ρ h0 K (.slice (some ⟨w.heap.size,0,none⟩) need newCap) { w with drawn:=d,heap:=w.heap.push (.cells (c++Builtin.zeroCells se.zero.cells (newCap-need)) e) } ∧cs.length=need*se.size∧(2*need+768)*se.bytes≤281474976710656:=by
 unfold qn at hk
 cases hb:Nat.beq se.zero.cells.size se.size&&Nat.beq cs.length (need*se.size)&&Nat.ble ((2*need+768)*se.bytes) 281474976710656 with
 |false=>rw [hb]at hk;exact absurd hk Bool.false_ne_true
 |true=>
  rw [hb]at hk;simp only [Bool.and_eq_true]at hb;obtain⟨⟨h1,h2⟩,h3⟩:=hb;have h1:=Nat.eq_of_beq_eq_true h1;have h2:=Nat.eq_of_beq_eq_true h2;have h3:=Nat.le_of_ble_eq_true h3;subst hc;have G:=FX (e:=e) hτ h1 (H.drawn d) hlt h2 hcap;refine⟨⟨_,_,_,hk,?_,⟨Nat.lt_succ_self _,Nat.lt_succ_self _,?_⟩,G,?_,?_,?_⟩,h2,h3⟩
  ·simp [SV.den,df.den,bA]
  ·simp only [df.den,bA];omega
  ·rw [h01];exact bd _ _ _
  ·rw [h01];exact Nat.le_succ _
  ·rw [h02];exact Mem.le_refl _
theorem lC{h:HS}{τ:Nat}{se:STy}{cs:List SV}{need:Nat}{K:SV→HS→Bool}(hk:qn h τ se cs need K):se.zero.cells.size=se.size∧cs.length=need*se.size∧(2*need+768)*se.bytes≤281474976710656:=by
 unfold qn at hk
 cases hb:Nat.beq se.zero.cells.size se.size&&Nat.beq cs.length (need*se.size)&&Nat.ble ((2*need+768)*se.bytes) 281474976710656 with
 |false=>rw [hb]at hk;exact absurd hk Bool.false_ne_true
 |true=>
  simp only [Bool.and_eq_true]at hb;exact⟨Nat.eq_of_beq_eq_true hb.1.1,Nat.eq_of_beq_eq_true hb.1.2,Nat.le_of_ble_eq_true hb.2⟩
theorem Dc{d:TypeDesc}(h:(match d with| .int _=>true|_=>false)=false):pj d=true:=by
 cases d<;>first|rfl|(cases h;done)
theorem y7{P:Program}{h:HS}{ts:List TypeId}{s x:SV}{K:SV→HS→Bool}(hk:wS P h ts s x K)(hbig:∀l n,tR s=some l→tR x=some n→l+n≤9223372036854775807){ρ:Nat→Loc}{w:World}(H:ba ρ h w)(hs:s.lt ρ h.nx)(u:TypeId):
  ∃v w',(Builtin.append_ ts.toArray u #[s.den ρ,x.den ρ]).run P w= .ok v w'∧dT ρ h K v w':=by
 unfold wS at hk
 split at hk
 ·rename_i st xt
  split at hk
  ·rename_i ss sx hss hsx
   split at hk
   ·rename_i e hd hni
    split at hk
    ·rename_i se n hse hn
     split at hk
     ·exact absurd hk Bool.false_ne_true
     ·rename_i nc hnc
      have hst:P.underlying st=some (.slice e):=by rw [(bZ hss).und,hd]
      have hni:=Dc hni
      cases hlen: !(Nat.beq nc.length (n*se.size))|| !(nc.all SV.one)with
      |true=>rw [hlen]at hk;exact absurd hk Bool.false_ne_true
      |false=>
       rw [hlen]at hk;simp only [Bool.or_eq_false_iff,Bool.not_eq_false']at hlen;have hncl:=Nat.eq_of_beq_eq_true hlen.1;have hone:=List.all_eq_true.1 hlen.2;have hnclt:=kN hnc H;simp only [cond_false]at hk
       have hfc:(Builtin.firstCells se.size n (x.den ρ)).run P w= .ok (nc.map (SV.den ρ)).toArray w:=by
        rcases jX (P:=P) hnc H with⟨h,_⟩|⟨_,_,_,_,h⟩<;>exact h
       have hlx:=si (P:=P) hn ρ w
       split at hk
       ·
        cases h0:Nat.beq n 0 with
        |true=>
         rw [h0]at hk;have:=Nat.eq_of_beq_eq_true h0;subst this;have hf:=eL (u:=u) (base:=none) (sLen:=0) (sCap:=0) (w':=w) hst hse hsx hni hlx hfc (by omega) rfl;exact⟨_,w,hf,_,_,ρ,hk,rfl,trivial,H,Ext.refl _ _,Nat.le_refl _,Mem.le_refl _⟩
        |false=>
         rw [h0]at hk;simp only [cond_false]at hk;have hpos:0<n:=Nat.pos_of_ne_zero fun e=>by rw [e]at h0;cases h0
         obtain⟨f1,f2,f3⟩:=lC hk
         obtain⟨newCap,g1,g2⟩:=kB (u:=u) (base:=none) (sLen:=0) (sCap:=0) (n:=n) (old:= #[]) hst hse hsx hni hlx (dX hnc H) (by omega) (fun d=>rfl) (by simpa using f3) (by
          have:=hbig 0 n rfl hn;omega)
         simp only [Nat.zero_add]at g1 g2;obtain⟨p,_⟩:=pI (h0:=h) (e:=e) (qH _ _) hk H hnclt rfl rfl g1 (c:= #[]++(nc.map (SV.den ρ)).toArray) (by simp) (w.drawn+1);exact⟨_,_,g2,p⟩
       ·
        rename_i b o l cap
        cases hfit:Nat.ble (l+n) cap with
        |true=>
         rw [hfit]at hk;simp only [cond_true]at hk;have hle:=Nat.le_of_ble_eq_true hfit
         split at hk
         ·rename_i cs es τ hb
          split at hk
          ·rename_i cs' hov
           unfold gM at hov
           cases hble:Nat.ble (o+l*se.size+nc.length) cs.length with
           |false=>rw [hble]at hov;cases hov
           |true=>
            rw [hble]at hov;injection hov with hov;subst hov
            obtain⟨w',k1,k2⟩:=iP (P:=P) H hb (Nat.le_of_ble_eq_true hble) hone hnclt
            have hf:=eL (u:=u) (base:=some ⟨(ρ b).blk,(ρ b).off+o,none⟩) (sLen:=l) (sCap:=cap) (w':=w') hst hse hsx hni hlx hfc hle (by
             simp only [db,Nat.add_assoc];simpa using k1)
            exact⟨_,w',hf,_,_,ρ,hk,rfl,⟨hs.1,trivial,hle⟩,k2,Ext.refl _ _,Nat.le_refl _,Mem.le_refl _⟩
          ·exact absurd hk Bool.false_ne_true
         ·exact absurd hk Bool.false_ne_true
        |false=>
         rw [hfit]at hk;simp only [cond_false]at hk
         have hgt:cap<l+n:=by
          rcases Nat.lt_or_ge cap (l+n)with h|h
          ·exact h
          ·rw [Nat.ble_eq.mpr h]at hfit;cases hfit
         split at hk
         ·rename_i old hold
          obtain⟨f1,f2,f3⟩:=lC hk
          obtain⟨newCap,g1,g2⟩:=kB (u:=u) (base:=some ⟨(ρ b).blk,(ρ b).off+o,none⟩) (sLen:=l) (sCap:=cap) (n:=n) hst hse hsx hni hlx (dX hnc H) hgt
           (dX hold H) f3 (hbig l n rfl hn)
          obtain⟨p,_⟩:=pI (h0:=h) (e:=e) (qH _ _) hk H (fun y hy=>by
           rcases List.mem_append.1 hy with hy|hy
           ·exact kN hold H y hy
           ·exact hnclt y hy) rfl rfl g1 (c:=(old.map (SV.den ρ)).toArray++(nc.map (SV.den ρ)).toArray) (by simp) (w.drawn+1)
          exact⟨_,_,g2,p⟩
         ·exact absurd hk Bool.false_ne_true
       ·
        rename_i b o l b' d
        cases hbb: !(Nat.beq b b')|| !(Nat.beq o (d*se.size))||Nat.beq se.size 0 with
        |true=>rw [hbb]at hk;exact absurd hk Bool.false_ne_true
        |false=>
         rw [hbb]at hk;simp only [Bool.or_eq_false_iff,Bool.not_eq_false']at hbb;obtain⟨⟨hb1,ho⟩,hz⟩:=hbb;have hb1:=Nat.eq_of_beq_eq_true hb1;have ho:=Nat.eq_of_beq_eq_true ho;have hz:se.size≠0:=fun e=>by rw [e]at hz;cases hz
         subst hb1;simp only [cond_false]at hk;have hlc:l≤(ρ b).cap-d:=hs.2.2
         cases h0:Nat.beq n 0 with
         |true=>
          rw [h0]at hk;have:=Nat.eq_of_beq_eq_true h0;subst this;have hncn:nc= []:=List.length_eq_zero_iff.1 (by rw [hncl];simp);subst hncn;have hf:=eL (u:=u) (base:=some ⟨(ρ b).blk,(ρ b).off+o,none⟩) (sLen:=l) (sCap:=(ρ b).cap-d) (w':=w) hst hse hsx hni hlx hfc (by omega) rfl;exact⟨_,w,hf,_,_,ρ,hk,rfl,hs,H,Ext.refl _ _,Nat.le_refl _,Mem.le_refl _⟩
         |false=>
          rw [h0]at hk;simp only [cond_false]at hk
          split at hk
          ·rename_i cs es τ hb
           cases hes: !(Nat.beq es se.size)with
           |true=>rw [hes]at hk;exact absurd hk Bool.false_ne_true
           |false=>
            rw [hes]at hk;simp only [Bool.not_eq_false']at hes;have hes:=Nat.eq_of_beq_eq_true hes;subst hes;simp only [cond_false]at hk;obtain⟨_,h2,c,t',fz,h3,h4,h5,h7,h6⟩:=H.blk b _ hb;have h7:=h7.resolve_left hz
            cases hin:Nat.ble ((d+l+n)*se.size) cs.length with
            |true=>
             rw [hin]at hk;simp only [cond_true]at hk;have hin:=Nat.le_of_ble_eq_true hin;have hle:d+l+n≤(ρ b).cap:=Nat.le_of_mul_le_mul_right (Nat.le_trans hin h7) (Nat.pos_of_ne_zero hz)
             split at hk
             ·rename_i cs' hov
              unfold gM at hov
              cases hble:Nat.ble (o+l*se.size+nc.length) cs.length with
              |false=>rw [hble]at hov;cases hov
              |true=>
               rw [hble]at hov;injection hov with hov;subst hov
               obtain⟨w',k1,k2⟩:=iP (P:=P) H hb (Nat.le_of_ble_eq_true hble) hone hnclt
               have hf:=eL (u:=u) (base:=some ⟨(ρ b).blk,(ρ b).off+o,none⟩) (sLen:=l) (sCap:=(ρ b).cap-d) (w':=w') hst hse hsx hni hlx hfc (by omega) (by
                simp only [db,Nat.add_assoc];simpa using k1)
               exact⟨_,w',hf,_,_,ρ,hk,rfl,⟨hs.1,hs.2.1,by simp only [df.den];omega⟩,k2,Ext.refl _ _,Nat.le_refl _,Mem.le_refl _⟩
             ·exact absurd hk Bool.false_ne_true
            |false=>
             rw [hin]at hk;simp only [cond_false]at hk
             cases hend:Nat.beq cs.length ((d+l)*se.size)with
             |false=>rw [hend]at hk;exact absurd hk Bool.false_ne_true
             |true=>
              rw [hend]at hk;simp only [cond_true]at hk;have hend:=Nat.eq_of_beq_eq_true hend;obtain⟨f1,f2,f3⟩:=lC hk
              have hdl:(cs.drop o).length=l*se.size:=by
               rw [List.length_drop,hend,ho,Nat.add_mul];omega
              have hold:eG h se.size l (.slc b o l (.sub b d))=some (cs.drop o):=by
               simp only [eG,hb]
               have:∀(m:Nat) (l:List SV),l.length=m→takeN m l=some l:=by
                intro m
                induction m with
                |zero=>intro l hl;rw [List.length_eq_zero_iff.1 hl];rfl
                |succ m ih=>
                 intro l hl
                 cases l with
                 |nil=>simp at hl
                 |cons y ys=>simp only [takeN,ih ys (by simpa using hl)]
               exact this _ _ hdl
              have hmem:∀y∈cs.drop o++nc,y.lt ρ h.nx:=fun y hy=>by
               rcases List.mem_append.1 hy with hy|hy
               ·exact h2 y (List.mem_of_mem_drop hy)
               ·exact hnclt y hy
              have hpos:0<n:=Nat.pos_of_ne_zero fun e=>by rw [e]at h0;cases h0
              by_cases hfit:l+n≤(ρ b).cap-d
              ·
               have hroom:(ρ b).off+o+l*se.size+nc.length≤c.size:=by
                have h8:(d+l+n)*se.size≤(ρ b).cap*se.size:=Nat.mul_le_mul_right _ (by omega);have h9:(d+l+n)*se.size=d*se.size+l*se.size+n*se.size:=by rw [Nat.add_mul,Nat.add_mul]
                rw [hncl,ho];omega
               obtain⟨w',c',k1,k2,k3,k4⟩:=iB (P:=P) (o:=(ρ b).off+(o+l*se.size)) (nc.map (SV.den ρ)) 0 w c h3 (by simp;omega) h6.1.not (fun v hv=>by
                obtain⟨y,hy,rfl⟩:=List.mem_map.1 hv;exact SV.one_den (hone y hy))
               have hf:=eL (u:=u) (base:=some ⟨(ρ b).blk,(ρ b).off+o,none⟩) (sLen:=l) (sCap:=(ρ b).cap-d) (w':=w') hst hse hsx hni hlx hfc hfit (by
                simp only [db,Nat.add_assoc];simpa using k1)
               have hsz':c'.size=c.size:=by
                rw [←Array.length_toList,k3];simp;omega
               have hzb:(Nat.beq se.zero.cells.size se.size&&Nat.beq (cs.drop o++nc).length ((l+n)*se.size)&&Nat.ble ((2*(l+n)+768)*se.bytes) 281474976710656)=true:=by
                simp only [Bool.and_eq_true];exact⟨⟨Nat.beq_eq.mpr f1,Nat.beq_eq.mpr f2⟩,Nat.ble_eq.mpr f3⟩
               unfold qn at hk;rw [hzb]at hk;have M:=H.move (L:=⟨(ρ b).blk,(ρ b).off+o,(ρ b).cap-d⟩) (B:= .cells (cs.drop o++nc) se.size (ze τ o se.size e)) hb hmem rfl ⟨c',t',fz,k2,fun i y hi=> ?_,?_,.inr ?_,?_⟩ k4
               ·refine⟨_,w',hf,_,_,_,hk,?_,⟨Nat.lt_succ_self _,Nat.lt_succ_self _,?_⟩,M,bd _ _ _,Nat.le_succ _,Mem.le_refl _⟩
                ·simp [SV.den,df.den,bA]
                ·simp only [df.den,bA];omega
               ·rw [←Array.getElem?_toList,k3]
                simp only [Nat.add_zero,List.length_map];have hcl:c.toList.length=c.size:=Array.length_toList
                by_cases hi1:i<l*se.size
                ·rw [List.getElem?_append_left (by rw [hdl];exact hi1),List.getElem?_drop]at hi
                 rw [List.append_assoc,List.getElem?_append_left (by simp;omega),List.getElem?_take_of_lt (by omega),Array.getElem?_toList,Nat.add_assoc];exact h4 (o+i) y hi
                ·rw [List.getElem?_append_right (by rw [hdl];omega),hdl]at hi
                 have hi2:=(List.getElem?_eq_some_iff.1 hi).1;rw [List.append_assoc,List.getElem?_append_right (by simp;omega),List.getElem?_append_left (by simp;omega),List.getElem?_map];have:(ρ b).off+o+i-(List.take ((ρ b).off+(o+l*se.size)) c.toList).length=i-l*se.size:=by simp;omega
                 rw [this,hi];rfl
               ·show(ρ b).off+o+((ρ b).cap-d)*se.size≤c'.size
                rw [hsz',ho];have:d*se.size+((ρ b).cap-d)*se.size=(ρ b).cap*se.size:=by rw [←Nat.add_mul];congr 1;omega
                omega
               ·show(cs.drop o++nc).length≤((ρ b).cap-d)*se.size
                rw [f2];exact Nat.mul_le_mul_right _ hfit
               ·rw [hsz'];exact⟨h6.1,Ep h6.2⟩
              ·obtain⟨newCap,g1,g2⟩:=kB (u:=u) (base:=some ⟨(ρ b).blk,(ρ b).off+o,none⟩) (sLen:=l) (sCap:=(ρ b).cap-d) (n:=n) hst hse hsx hni hlx (dX hnc H) (by omega)
                 (dX hold H) f3 (hbig l n rfl hn)
               obtain⟨p,_⟩:=pI (h0:=h) (e:=e) (Eo _ _ _ _) hk (H.drop b) hmem rfl rfl g1 (c:=((cs.drop o).map (SV.den ρ)).toArray++(nc.map (SV.den ρ)).toArray) (by simp) (w.drawn+1);exact⟨_,_,g2,p⟩
          ·exact absurd hk Bool.false_ne_true
       ·exact absurd hk Bool.false_ne_true
    ·exact absurd hk Bool.false_ne_true
   ·exact absurd hk Bool.false_ne_true
  ·exact absurd hk Bool.false_ne_true
 ·exact absurd hk Bool.false_ne_true
def slcA(s:SV):Option (Option (Nat×Nat)×Nat×Nat):=match s with
 | .v (.slice none l c)=>some (none,l,c)
 | .v (.slice (some ⟨g,o,none⟩) l c)=>some (some (g,o),l,c)
 |_=>none
def aD:Option (Nat×Nat)→Option Addr
 |none=>none
 |some (g,o)=>some ⟨g,o,none⟩
theorem Ey{s:SV}{base:Option (Nat×Nat)}{l c:Nat}(h:slcA s=some (base,l,c))(ρ:Nat→Loc):s.den ρ= .slice (aD base) l c:=by
 unfold slcA at h
 split at h
 ·injection h with h;injection h with h1 h;injection h with h2 h3;subst h1;subst h2;subst h3;rfl
 ·injection h with h;injection h with h1 h;injection h with h2 h3;subst h1;subst h2;subst h3;rfl
 ·cases h
def kA(A:aa):Option (Nat×Nat)→Nat→Option (List Value)
 |none,n=>if n=0 then some []else none
 |some (g,o),n=>if n=0 then some []else A.rd g o n
def srcA(h:HS)(size n:Nat)(x:SV):Option (List Value):=match x with
 | .v (.slice (some ⟨g,o,none⟩) _ _)=>if n=0 then some []else h.M.A.rd g o (n*size)
 | .v (.slice none _ _)=>if n=0 then some []else none
 | .v (.slice (some _) _ _)=>if n=0 then some []else none
 | .slc b o l c=>match eG h size n (.slc b o l c)with
   |some cs=>je cs
   |none=>none
 |x=>match x.str? with
  |some l=>if size=1∧n=l.length then some (l.map fun b=> .int .u8 b.toNat)else none
  |none=>none
theorem EZ{P:Program}{ρ:Nat→Loc}{h:HS}{w:World}(H:ba ρ h w){g o n:Nat}{vs:List Value}(hr:h.M.A.rd g o n=some vs):(loadCellsFrom ⟨g,o,none⟩ 0 n #[]).run P w= .ok vs.toArray w:=by
 have hlen:=vC hr;obtain⟨c,t,fz,hb,hle,hvs⟩:=rd_some hr
 have:=ep (P:=P) (o:=o) (H.are g _ hb) vs 0 #[] (fun j v hj=>by
  rw [hvs]at hj
  have hj':j<n:=by
   have:=(List.getElem?_eq_some_iff.1 hj).1;simp at this;omega
  rw [List.getElem?_take_of_lt hj',List.getElem?_drop,Array.getElem?_toList]at hj
  rw [Nat.zero_add];exact hj)
 rw [hlen]at this;rw [this];simp
theorem xi{P:Program}{h:HS}{size n:Nat}{x:SV}{ys:List Value}(hx:srcA h size n x=some ys){ρ:Nat→Loc}{w:World}(H:ba ρ h w)(d:Nat):
  (Builtin.firstCells size n (x.den ρ)).run P { w with drawn:=d } = .ok ys.toArray { w with drawn:=d } :=by
 unfold srcA at hx
 split at hx
 ·simp only [Builtin.firstCells,SV.den,loadCells]
  split at hx
  ·rename_i h0
   injection hx with hx;subst hx;subst h0
   simp [loadCellsFrom]
  ·exact EZ (H.drawn d) hx
 ·split at hx
  ·rename_i h0
   injection hx with hx;subst hx;subst h0;rfl
  ·cases hx
 ·split at hx
  ·rename_i h0
   injection hx with hx;subst hx;subst h0
   simp [Builtin.firstCells,SV.den,loadCells,loadCellsFrom]
  ·cases hx
 ·split at hx
  ·rename_i cs hcs
   rw [dX hcs H d,eI ρ cs ys hx]
  ·cases hx
 ·split at hx
  ·rename_i l hl
   split at hx
   ·rename_i hc
    injection hx with hx
    subst hx;rw [SV.bW hl];simp only [Builtin.firstCells,ky,List.drop_zero,Nat.sub_zero,Sem.run_pure];congr 1;apply Array.toList_inj.1;rw [hc.2];simp
   ·cases hx
  ·cases hx
def dC(A:aa)(base:Option (Nat×Nat))(l c es:Nat)(e:TypeId)(xs ys:List Value)(n:Nat)(v:Value)(A':aa):Prop:=
 (l+n≤c∧v= .slice (aD base) (l+n) c∧((ys= []∧A'=A)∨∃g o,base=some (g,o)∧A.Put A' g (o+l*es) ys))∨
 (c<l+n∧∃(g nc:Nat) (cs:Array Value) (zs:List Value),v= .slice (some ⟨g,0,none⟩) (l+n) nc∧l+n≤nc∧cs.toList=xs++ys++zs∧zs.length=(nc-(l+n))*es∧A.New A' g cs e)
def wT(P:Program)(h:HS)(ts:List TypeId)(s x:SV)(K:SV→HS→Bool):Bool:=match ts with
 | [st,xt]=>match ty P st,ty P xt with
   |some ss,some sx=>match ss.und with
    | .slice e=>bif pj sx.und then(match ty P e with
      |some se=>match slcA s,tR x with
       |some (base,l,c),some n=>h.M.D (∃xs ys:List Value,kA h.M.A base (l*se.size)=some xs∧srcA h se.size n x=some ys∧ys.length=n*se.size∧(∀v∈ys,v.oneCell'=true)∧l+n≤9223372036854775807∧
         (c<l+n→Builtin.nextslicecap (l+n) c*se.bytes≤281474976710656)∧se.zero.cells.size=se.size∧(base=none→l=0∧c=0)∧(∀g o,base=some (g,o)→l+n≤c→ys≠ []→h.M.A.Room g (o+l*se.size) ys.length)∧
         ∀v A',dC h.M.A base l c se.size e xs ys n v A'→K (.v v) (h.put A')=true)
       |_,_=>false
      |none=>false)else false
    |_=>false
   |_,_=>false
 |_=>false
theorem oI(z:Array Value)(n:Nat):(Builtin.zeroCells z n).toList.length=n*z.size:=by
 simp [Builtin.zeroCells]
theorem y8{P:Program}{h:HS}{ts:List TypeId}{s x:SV}{K:SV→HS→Bool}(hk:wT P h ts s x K){ρ:Nat→Loc}{w:World}(H:ba ρ h w)(u:TypeId):
  ∃v w',(Builtin.append_ ts.toArray u #[s.den ρ,x.den ρ]).run P w= .ok v w'∧dT ρ h K v w':=by
 unfold wT at hk
 split at hk
 ·rename_i st xt
  split at hk
  ·rename_i ss sx hss hsx
   split at hk
   ·rename_i e hd
    cases hni:pj sx.und with
    |false=>rw [hni]at hk;exact absurd hk Bool.false_ne_true
    |true=>
     rw [hni]at hk;simp only [cond_true]at hk
     split at hk
     ·rename_i se hse
      split at hk
      ·rename_i base l c n hs hn
       obtain⟨xs,ys,hxs,hys,hyl,hone,hbig,hneed,hz,hnil,hroom,hk⟩:=(h.M.X.hD _).1 hk;have hst:P.underlying st=some (.slice e):=by rw [(bZ hss).und,hd]
       have hlx:=si (P:=P) hn ρ w;rw [Ey hs ρ];have hfc:(Builtin.firstCells se.size n (x.den ρ)).run P w= .ok ys.toArray w:=xi (P:=P) hys H w.drawn
       by_cases hfit:l+n≤c
       ·by_cases hnone:ys= []
        ·subst hnone
         have hf:=eL (u:=u) (base:=aD base) (sLen:=l) (sCap:=c) (w':=w) hst hse hsx hni hlx hfc hfit (by cases aD base<;>rfl);exact⟨_,w,hf,_,_,ρ,hk _ h.M.A (.inl ⟨hfit,rfl,.inl ⟨rfl,rfl⟩⟩),rfl,trivial,H.uW rfl rfl rfl (fun _ _ _=>rfl) H.are (fun k o hk=> .inl ⟨o,hk⟩),Ext.refl _ _,Nat.le_refl _,Mem.dH _ _⟩
        ·cases base with
         |none=>
          exfalso;obtain⟨h0,h1⟩:=hnil rfl;have hn0:n=0:=by omega
          subst hn0;have hl0:ys.length=0:=by rw [hyl];simp
          exact hnone (List.length_eq_zero_iff.1 hl0)
         |some go=>
          obtain⟨g,o⟩:=go;obtain⟨w',A',k1,k2,k3⟩:=uV (P:=P) H (hroom g o rfl hfit hnone) hone
          have hf:=eL (u:=u) (base:=some ⟨g,o,none⟩) (sLen:=l) (sCap:=c) (w':=w') hst hse hsx hni hlx hfc hfit (by
           simp only [db];exact k1)
          exact⟨_,w',hf,_,_,ρ,hk _ A' (.inl ⟨hfit,rfl,.inr ⟨g,o,rfl,k2⟩⟩),rfl,trivial,k3,Ext.refl _ _,Nat.le_refl _,Mem.dH _ _⟩
       ·have hold:∀d,(Builtin.firstCells se.size l (.slice (aD base) l c)).run P { w with drawn:=d } = .ok xs.toArray { w with drawn:=d } :=fun d=>by
          cases base with
          |none=>
           obtain⟨h0,_⟩:=hnil rfl;subst h0;simp only [kA,Nat.zero_mul,if_true,Option.some.injEq]at hxs;subst hxs;rfl
          |some go=>
           obtain⟨g,o⟩:=go;simp only [Builtin.firstCells,aD,loadCells];simp only [kA]at hxs
           split at hxs
           ·rename_i h0
            injection hxs with hxs;subst hxs
            rw [h0];simp [loadCellsFrom]
           ·exact EZ (H.drawn d) hxs
        obtain⟨nc,g1,g2⟩:=mN (u:=u) (base:=aD base) (sLen:=l) (sCap:=c) (n:=n) (nc:=ys.toArray) (old:=xs.toArray) hst hse hsx hni hlx (xi hys H) (by omega) hold (hneed (by omega)) hbig;obtain⟨A',k1,k2⟩:=jP H (xs.toArray++ys.toArray++Builtin.zeroCells se.zero.cells (nc-(l+n))) e (w.drawn+1);exact⟨_,_,g2,_,_,ρ,hk _ A' (.inr ⟨by omega,_,nc,_,(Builtin.zeroCells se.zero.cells (nc-(l+n))).toList,rfl,g1,by simp,by rw [oI,hz],k1⟩),rfl,trivial,k2,Ext.refl _ _,Nat.le_refl _,Mem.dH _ _⟩
      ·exact absurd hk Bool.false_ne_true
     ·exact absurd hk Bool.false_ne_true
   ·exact absurd hk Bool.false_ne_true
  ·exact absurd hk Bool.false_ne_true
 ·exact absurd hk Bool.false_ne_true
end
end Go.Sx
