/-
  QueueDone: behind any row of deeds the answer to a change of any kind, by any deed, is what the document tells; deeds and the tree stay as they were, answers lie apart; proved of the given program for every row of deeds, every kind and every deed, with the three listed tables as the program text lays them (the tied card).
-/
import Derived.Test.YtphigpccfbfnoaaGreatDoorTie
import Derived.Test.YtphigpccfbfnoaaGreatDoorCards
import Derived.Test.YtphigpccfbfnoaaGreatDoorG45
import Derived.ProofKit
import Derived.LaidMore
import Derived.OpenShut
import Derived.ChangeMaps5
import Derived.Lib.LaidTab
import Derived.LaidLaws
import Derived.Stop.LaidErr
import Derived.Lay
import Derived.Carry
import Derived.SizedLaws
import Derived.SevenTiedAt
set_option maxRecDepth 100000
set_option maxHeartbeats 0
namespace Go.Proofs.YtphigpccfbfnoaaGreatDoor.queueDone
open Go.ChangeShapes Go.WideShapes Go.ChangeAt Go.WideMaps Go.WideElems Go.RowKit
open Go.Sx
theorem own:ownKnob Tryz.prog.godebug=none:=by kernel_rfl
theorem laidOut:laidOutB Tryz.prog=true:=by kernel_rfl
theorem gHas:Tryz.prog.globalNamed "beadle/deed.has" =some 0:=by kernel_rfl
abbrev laidL:List (String×DataW Unit):= [("unicode/utf8.acceptRanges",Rows.laid_unicode_utf8_acceptRanges),("beadle/deed.has",Rows.laid_beadle_deed_has),("unicode/utf8.first",Rows.laid_unicode_utf8_first)]
theorem has_laid{W:World}(h:laidMetH Tryz.prog laidL W):gT (fg W):=by
 rw [MakeChecks.laidMetH_plain _ _ _ (by kernel_rfl)]at h;have h:=laidMet.tail h
 have hT:Lib.TabIs Tryz.prog W "beadle/deed.has" .i64 [0,23,17,11,32,260,0,128,256,64]:=
  Lib.tabIs_of_head (rest:= [("unicode/utf8.first",Rows.laid_unicode_utf8_first)]) (n:=10) (t:=192) (e:=3) gHas (by kernel_rfl) (by kernel_rfl) (by kernel_rfl) (by kernel_rfl) (by kernel_rfl) h
 have hc:∀i,i<10→W.cell? (Addr.add ⟨0,0,none⟩ i)=some (.int .i64 (([0,23,17,11,32,260,0,128,256,64]:List Int).getD i 0)):=fun i hi=>by
  have:=hT.cell gHas i hi
  cases i<;>simpa [Addr.add]using this
 refine yW ?_ (by decide);unfold World.cells?;rw [if_pos (Nat.zero_le _),show List.range 10= [0,1,2,3,4,5,6,7,8,9]from rfl];simp only [List.mapM_cons,List.mapM_nil,hc 0 (by decide),hc 1 (by decide),hc 2 (by decide),hc 3 (by decide),hc 4 (by decide),hc 5 (by decide),hc 6 (by decide),hc 7 (by decide),hc 8 (by decide),hc 9 (by decide)];rfl
theorem walk{w:World}{v0:Value}{g0:List aB}(h0:gi (fg w) v0 g0)(g1:Int){cs2:List Value}{g2:aB}(h2:bj (fg w) g2 cs2)(hh:gT (fg w)):
  Calls Tryz.prog 3 #[v0,.int .u8 g1,.agg cs2.toArray] w fun e w'=>e= .returned (.bool true)∧Below w.heap.size w w':=by
 refine(wN E3 Tryz.func3 (by kernel_rfl) (by kernel_rfl) (g0,g1,g2) [v0,.int .u8 g1,.agg cs2.toArray] w ⟨v0,cs2,rfl,h0,h2,hh⟩ (fun _ _ hq=>hq.1)).mono fun e w' ⟨u,he,⟨A',hq⟩,hb⟩=> ?_
 obtain⟨_,rfl⟩:=hq;exact⟨he,hb⟩
theorem lifted(os:Os)(started:os.Started)(H:Type)(enc:TypeId×Value→H):
  ReturnsInHanded {} Tryz.checked os 3 .any (fun w args=>(Rows.queueDoneSpec.pre enc Tryz.prog Tryz.f3 [] false w args∧laidMetH Tryz.prog laidL w)∧sizedMet enc Tryz.prog Tryz.f3 (OpenSpec.ofChange Rows.queueDoneSpec) false w args)
   (Rows.queueDoneSpec.post enc Tryz.prog Tryz.f3 false true false false):=by
 refine returnsInHanded_of_change_and (C:=Tryz.checked) (X:=fun w _=>laidMetH Tryz.prog laidL w) (fun _ _ _ hh h=>h.of_heap hh) own started (by kernel_rfl) Tryz.func3
  (ChangeSpec.witness_shaped (enc:=enc) (C:=Tryz.checked) (os:=os) (X:=fun w _=>laidMetH Tryz.prog laidL w) false (World.laidAll Tryz.prog os laidL)
    #[.slice none 0 0,.int .u8 0,.agg #[.int .i64 0,.int .u8 0,.int .i64 0,.int .i64 0,.int .i64 0,.int .i64 0,.string ⟨#[]⟩,.slice none 0 0,.int .i64 0,.int .i64 0,.int .i64 0,.int .i64 0,.int .i64 0,.int .i64 0,.slice none 0 0,.slice none 0 0]] 8 (World.laidAll_os _ _ _)
    (World.shaped_of_ZipB (by kernel_rfl) (by kernel_rfl)) (by kernel_rfl) (by kernel_rfl) (by kernel_rfl)
    (by rw [MakeChecks.laidMetH_plain _ _ _ (by kernel_rfl)];exact laidMet_laidAll _ (by kernel_rfl) (by kernel_rfl))) ?_
 intro W base args ds gs before hval0 hW _ hsz hL _;have hW':=hW;have hlt:∀x∈before,x.block<W.heap.size:=fun x hx=>hW.lt x hx
 obtain⟨p,q,hA0,hV,rfl,hfz,hnd⟩:=hW;have hA:DataW.TrodAll enc Tryz.prog W 0 (fun _=>true) true Tryz.f3.params.toList args.toList ds p:=hA0;have hval:∀(j:Nat) t v,Tryz.f3.params[j]? =some t→args[j]? =some v→Value.okWide Tryz.prog W .any base t v:=hval0;have hsz:(DataW.weightsEach Tryz.prog (Tryz.f3.params.toList++Rows.queueDoneSpec.plain.varTypes Tryz.prog) (ds++gs)).all (· ≤reachBytes)=true:=hsz;rw [Tryz.params3]at hA hval hsz;obtain⟨v0,vs0,d0,ds0,p0,q0,hargs,rfl,rfl,h0,r0⟩:=trodAll_cons hA;obtain⟨v1,vs1,d1,ds1,p1,q1,rfl,rfl,rfl,h1,r1⟩:=trodAll_cons r0;obtain⟨v2,vs2,d2,ds2,p2,q2,rfl,rfl,rfl,h2,r2⟩:=trodAll_cons r1;obtain⟨rfl,rfl,rfl⟩:=trodAll_nil r2;obtain rfl:args= #[v0,v1,v2]:=by cases args;simp_all
 obtain⟨rfl,rfl⟩:=trodVars_none hV;simp only [List.append_nil]at hW' hlt;have hf0:eM Tryz.prog 22 d0:=xF hsz 0 rfl rfl;have hv0:v0.cells.toList= [v0]:=zr Tryz.underlying22 (hval 0 22 v0 rfl rfl);obtain⟨dd0,hd0⟩:=Gl h0 hf0 hv0;obtain⟨s1,rfl,rfl,rfl,hs1⟩:=open_int Tryz.underlying23 (hval 1 23 v1 rfl rfl) h1;have hf2:eM Tryz.prog 32 d2:=xF hsz 2 rfl rfl
 obtain⟨dd2,hd2⟩:∃d,bj (fg W) d v2.cells.toList:=by
  obtain⟨n,hn⟩:=h2;exact Cb _ _ ⟨_,hn,hf2⟩
 obtain⟨⟨cs2⟩,rfl⟩:∃cs,v2= .agg cs:=by
  have hl:=hd2.len
  cases v2 with
  |agg cs=>exact⟨cs,rfl⟩
  |_=>simp [Value.cells]at hl
 refine(walk hd0 s1 hd2 (has_laid hL)).mono fun e W' ⟨he,hb⟩=> ?_
 subst he
 exact⟨_,rfl,tL (pv:= []) hW' (fun _ _ _=>(trodAll_cons_mk (shut_bool Tryz.underlying4 _) trodAll_mk0))
  (fun sp hsp=>(trodAll_cons_mk (Trod_stays laidOut (by kernel_rfl) (of_decide_eq_true (by kernel_rfl)) h0 (fun x hx=>hb.same (hlt x (by simp [hx]))) (fun x hx=>hsp x (by simp [hx]))) (trodAll_cons_mk (shut_int Tryz.underlying23 hs1) (trodAll_cons_mk (Trod_stays laidOut (by kernel_rfl) (of_decide_eq_true (by kernel_rfl)) h2 (fun x hx=>hb.same (hlt x (by simp [hx]))) (fun x hx=>hsp x (by simp [hx]))) trodAll_mk0))))
  (fun _ _=>rfl) (by simp) hb (ok_one (by kernel_rfl) rfl (okWide_bool_mk Tryz.underlying4 _))⟩
theorem over:Rows.QueueDoneSaid:=
 OpenClaim.holds_of_wide 3 Tryz.f3 rfl rfl rfl rfl rfl rfl rfl ⟨rfl,rfl,rfl,rfl,rfl⟩ rfl rfl rfl rfl rfl (by kernel_rfl) Tryz.func3 (by kernel_rfl)
  (of_decide_eq_true (by kernel_rfl)) (by unfold Func.isWrapper;first|(rw [if_pos (by decide+kernel)];kernel_rfl)|(rw [if_neg (by decide+kernel)];exact⟨rfl,rfl⟩))
  (fun os started H enc _=>lifted os started H enc)
theorem proved:Rows.QueueDoneCardSaid:=
 Claim7.holds_tied_plain_at .later [] [.data,.data,.pinned] true Rows.queueDoneCard.stood.harness false
  over (fun _ h=>by cases h) (by kernel_rfl) (fun _ h=>by cases h) queueDone_row_tie rfl ⟨rfl,rfl⟩ (by kernel_rfl) rfl
  (fun f fn hf hfn=>by
    obtain rfl:f=3:=Option.some.inj ((show Tryz.prog.funcNamed "beadle/beadlelaw26.QueueDone" =some 3 by kernel_rfl).symm.trans hf)|>.symm
    obtain rfl:fn=Tryz.f3:=(Option.some.inj (Tryz.func3.symm.trans hfn)).symm
    exact⟨by kernel_rfl,fun j t ht=>by
     rw [Tryz.params3]at ht;have hm:t∈ [22,23,32]:=by simpa using Array.mem_of_getElem? ht
     have hall:([22,23,32].all fun u=> !Tryz.prog.wantsStandIn u)=true:=by kernel_rfl
     exact(show Tryz.prog.wantsStandIn t=false by simpa using List.all_eq_true.1 hall t hm)⟩)
  (by kernel_rfl)
#print axioms proved
end Go.Proofs.YtphigpccfbfnoaaGreatDoor.queueDone
